import Derived.Test.YtchomggcjicokaaL10D
set_option linter.unusedVariables false
set_option maxRecDepth 100000
namespace Go.L10
open Go Go.Abs Go.Proofs

def rgO (b : Bool) (gs : List (List AVal)) (i : Int) : Regs := mkR 182 [(1, .fsl b 2 gs none), (6, .ptr 0 32 0 0), (8, .slc false 1 1 0 16 (some 16)), (9, .int .i64 i)]
def rgO2 (nx lt : Int) (b : Bool) (rs : List (List AVal)) (i : Int) : Regs := mkR 182 [(6, .ptr 0 32 0 0), (8, .slc false 1 1 0 16 (some 16)), (10, .int .i64 nx), (11, .int .i64 lt), (12, .fsl b 3 rs none), (13, .int .i64 i)]
def rgO3 (b : Bool) (rs : List (List AVal)) (i s : Int) : Regs := mkR 182 [(6, .ptr 0 32 0 0), (8, .slc false 1 1 0 16 (some 16)), (12, .fsl b 3 rs none), (13, .int .i64 i), (14, .int .i64 s)]
theorem owA_1 (row : List AVal) (row' : List AVal) (n : List (List AVal)) (gs : List (List AVal)) (b : Bool) (i : Int) (e : Int)
    (h1 : decide (AVal.toInt (List.getD (List.getD gs (Int.toNat i) []) 0 AVal.any) < 0) = true)
    (h2 : decide (Int.toNat i < List.length gs) = true)
    (h3 : areKinds [kindOf Try.prog 3] [List.getD (List.getD gs (Int.toNat i) []) 0 AVal.any] = true)
    (h4 : decide (0 ≤ i ∧ i < (↑(List.length gs) : Int)) = true)
    (h5 : (e == 0) = true)
    (h6 : FOk Try.prog 10 [AVal.ptr 0 32 0 0, AVal.int IntKind.i64 (AVal.toInt (List.getD (List.getD gs (Int.toNat i) []) 0 AVal.any)), AVal.int IntKind.i64 (AVal.toInt (List.getD (List.getD gs (Int.toNat i) []) 1 AVal.any))] [AObj.rows true 32 [row]] (AVal.int IntKind.i64 e) [AObj.rows true 32 [row']])
    (h7 : areKinds [kindOf Try.prog 3] [List.getD (List.getD gs (Int.toNat i) []) 1 AVal.any] = true)
    (h8 : decide (i < 200) = true)
    (h9 : decide (i < (↑(List.length gs) : Int)) = true) :
    TripN Try.prog 0 (loopNo Try.f3 0) (rgO b gs i) ([AObj.rows true 32 [row], AObj.rows true 1 n]) (AExit.ret) (mkR 182 [(1, AVal.fsl b 2 gs none), (6, AVal.ptr 0 32 0 0), (8, AVal.slc false 1 1 0 16 (some 16)), (9, AVal.int IntKind.i64 i)]) ([AObj.rows true 32 [row'], AObj.rows true 1 n]) :=
  evalT (st := St.mk (rgO b gs i) ([AObj.rows true 32 [row], AObj.rows true 1 n]) ([Dec.br true, Dec.br true, Dec.use [0] [AVal.ptr 0 32 0 0, AVal.int IntKind.i64 (AVal.toInt (List.getD (List.getD gs (Int.toNat i) []) 0 AVal.any)), AVal.int IntKind.i64 (AVal.toInt (List.getD (List.getD gs (Int.toNat i) []) 1 AVal.any))] [AObj.rows true 32 [row]] (AVal.int IntKind.i64 e) [AObj.rows true 32 [row']], Dec.br true, Dec.br true]) []) (st' := St.mk ([AVal.any, AVal.fsl b 2 gs none, AVal.any, AVal.any, AVal.tt false, AVal.any, AVal.ptr 0 32 0 0, AVal.any, AVal.slc false 1 1 0 16 (some 16), AVal.int IntKind.i64 i, AVal.any, AVal.any, AVal.any, AVal.any, AVal.any, AVal.any, AVal.any, AVal.any, AVal.any, AVal.any, AVal.any, AVal.any, AVal.any, AVal.any, AVal.any, AVal.any, AVal.any, AVal.any, AVal.any, AVal.any, AVal.any, AVal.any, AVal.any, AVal.int IntKind.i64 i, AVal.fsl b 2 gs none, AVal.int IntKind.i64 (↑(List.length gs) : Int), AVal.bool (decide (i < (↑(List.length gs) : Int))), AVal.tt true, AVal.int IntKind.i64 i, AVal.bool (decide (i < 200)), AVal.tt true, AVal.any, AVal.any, AVal.ptr 0 32 0 0, AVal.fsl b 2 gs none, AVal.int IntKind.i64 i, AVal.fptr 2 gs (Int.toNat i) 0, AVal.fptr 2 gs (Int.toNat i) 0, AVal.int IntKind.i64 (AVal.toInt (List.getD (List.getD gs (Int.toNat i) []) 0 AVal.any)), AVal.fsl b 2 gs none, AVal.int IntKind.i64 i, AVal.fptr 2 gs (Int.toNat i) 0, AVal.fptr 2 gs (Int.toNat i) 1, AVal.int IntKind.i64 (AVal.toInt (List.getD (List.getD gs (Int.toNat i) []) 1 AVal.any)), AVal.int IntKind.i64 e, AVal.tt true, AVal.fsl b 2 gs none, AVal.int IntKind.i64 i, AVal.fptr 2 gs (Int.toNat i) 0, AVal.fptr 2 gs (Int.toNat i) 0, AVal.int IntKind.i64 (AVal.toInt (List.getD (List.getD gs (Int.toNat i) []) 0 AVal.any)), AVal.bool (decide (AVal.toInt (List.getD (List.getD gs (Int.toNat i) []) 0 AVal.any) < 0)), AVal.tt true, AVal.tuple [], AVal.tuple [], AVal.tuple [], AVal.tuple [], AVal.tuple [], AVal.tuple [], AVal.tt true, AVal.any, AVal.any, AVal.any, AVal.any, AVal.any, AVal.any, AVal.any, AVal.any, AVal.any, AVal.any, AVal.any, AVal.any, AVal.any, AVal.any, AVal.any, AVal.any, AVal.any, AVal.any, AVal.any, AVal.any, AVal.any, AVal.any, AVal.any, AVal.any, AVal.any, AVal.any, AVal.any, AVal.any, AVal.any, AVal.any, AVal.any, AVal.any, AVal.any, AVal.any, AVal.any, AVal.any, AVal.any, AVal.any, AVal.any, AVal.any, AVal.any, AVal.any, AVal.any, AVal.any, AVal.any, AVal.any, AVal.any, AVal.any, AVal.any, AVal.any, AVal.any, AVal.any, AVal.any, AVal.any, AVal.any, AVal.any, AVal.any, AVal.any, AVal.any, AVal.any, AVal.any, AVal.any, AVal.any, AVal.any, AVal.any, AVal.any, AVal.any, AVal.any, AVal.any, AVal.any, AVal.any, AVal.any, AVal.any, AVal.any, AVal.any, AVal.any, AVal.any, AVal.any, AVal.any, AVal.any, AVal.any, AVal.any, AVal.any, AVal.any, AVal.any, AVal.any, AVal.any, AVal.any, AVal.any, AVal.any, AVal.any, AVal.any, AVal.any, AVal.any, AVal.any, AVal.any, AVal.any, AVal.any, AVal.any, AVal.any, AVal.any, AVal.any, AVal.any, AVal.any, AVal.any, AVal.any, AVal.any, AVal.any, AVal.any, AVal.any, AVal.any, AVal.any]) ([AObj.rows true 32 [row'], AObj.rows true 1 n]) ([]) [decide (AVal.toInt (List.getD (List.getD gs (Int.toNat i) []) 0 AVal.any) < 0) = true,
    decide (Int.toNat i < List.length gs) = true,
    true = true,
    areKinds [kindOf Try.prog 3] [List.getD (List.getD gs (Int.toNat i) []) 0 AVal.any] = true,
    true = true,
    decide (0 ≤ i ∧ i < (↑(List.length gs) : Int)) = true,
    (e == 0) = true,
    true = true,
    true = true,
    true = true,
    Owed.use (owed Try.prog 0) 10 [0] [AVal.ptr 0 32 0 0, AVal.int IntKind.i64 (AVal.toInt (List.getD (List.getD gs (Int.toNat i) []) 0 AVal.any)), AVal.int IntKind.i64 (AVal.toInt (List.getD (List.getD gs (Int.toNat i) []) 1 AVal.any))] [AObj.rows true 32 [row], AObj.rows true 1 n] [AVal.ptr 0 32 0 0, AVal.int IntKind.i64 (AVal.toInt (List.getD (List.getD gs (Int.toNat i) []) 0 AVal.any)), AVal.int IntKind.i64 (AVal.toInt (List.getD (List.getD gs (Int.toNat i) []) 1 AVal.any))] [AObj.rows true 32 [row]] (AVal.int IntKind.i64 e) [AObj.rows true 32 [row']],
    true = true,
    decide (Int.toNat i < List.length gs) = true,
    true = true,
    areKinds [kindOf Try.prog 3] [List.getD (List.getD gs (Int.toNat i) []) 1 AVal.any] = true,
    true = true,
    true = true,
    true = true,
    decide (0 ≤ i ∧ i < (↑(List.length gs) : Int)) = true,
    true = true,
    true = true,
    true = true,
    decide (Int.toNat i < List.length gs) = true,
    true = true,
    areKinds [kindOf Try.prog 3] [List.getD (List.getD gs (Int.toNat i) []) 0 AVal.any] = true,
    true = true,
    true = true,
    true = true,
    decide (0 ≤ i ∧ i < (↑(List.length gs) : Int)) = true,
    true = true,
    true = true,
    true = true,
    true = true,
    decide (i < 200) = true,
    decide (i < (↑(List.length gs) : Int)) = true]) followed (by kernel_rfl) (allP_of (⟨h1, h2, rfl, h3, rfl, h4, h5, rfl, rfl, rfl, ⟨h6, rfl, rfl, rfl⟩, rfl, h2, rfl, h7, rfl, rfl, rfl, h4, rfl, rfl, rfl, h2, rfl, h3, rfl, rfl, rfl, h4, rfl, rfl, rfl, rfl, h8, h9, trivial⟩)) (keepM 182 [1, 6, 8, 9]) ([0, 1]) (by kernel_rfl) (by kernel_rfl) (by kernel_rfl)

theorem owA_2 (row : List AVal) (row' : List AVal) (n : List (List AVal)) (gs : List (List AVal)) (b : Bool) (i : Int) (e : Int)
    (h1 : decide (AVal.toInt (List.getD (List.getD gs (Int.toNat i) []) 0 AVal.any) > 15) = true)
    (h2 : decide (Int.toNat i < List.length gs) = true)
    (h3 : areKinds [kindOf Try.prog 3] [List.getD (List.getD gs (Int.toNat i) []) 0 AVal.any] = true)
    (h4 : decide (0 ≤ i ∧ i < (↑(List.length gs) : Int)) = true)
    (h5 : decide (AVal.toInt (List.getD (List.getD gs (Int.toNat i) []) 0 AVal.any) < 0) = false)
    (h6 : (e == 0) = true)
    (h7 : FOk Try.prog 10 [AVal.ptr 0 32 0 0, AVal.int IntKind.i64 (AVal.toInt (List.getD (List.getD gs (Int.toNat i) []) 0 AVal.any)), AVal.int IntKind.i64 (AVal.toInt (List.getD (List.getD gs (Int.toNat i) []) 1 AVal.any))] [AObj.rows true 32 [row]] (AVal.int IntKind.i64 e) [AObj.rows true 32 [row']])
    (h8 : areKinds [kindOf Try.prog 3] [List.getD (List.getD gs (Int.toNat i) []) 1 AVal.any] = true)
    (h9 : decide (i < 200) = true)
    (h10 : decide (i < (↑(List.length gs) : Int)) = true) :
    TripN Try.prog 0 (loopNo Try.f3 0) (rgO b gs i) ([AObj.rows true 32 [row], AObj.rows true 1 n]) (AExit.ret) (mkR 182 [(1, AVal.fsl b 2 gs none), (6, AVal.ptr 0 32 0 0), (8, AVal.slc false 1 1 0 16 (some 16)), (9, AVal.int IntKind.i64 i)]) ([AObj.rows true 32 [row'], AObj.rows true 1 n]) :=
  evalT (st := St.mk (rgO b gs i) ([AObj.rows true 32 [row], AObj.rows true 1 n]) ([Dec.br true, Dec.br true, Dec.use [0] [AVal.ptr 0 32 0 0, AVal.int IntKind.i64 (AVal.toInt (List.getD (List.getD gs (Int.toNat i) []) 0 AVal.any)), AVal.int IntKind.i64 (AVal.toInt (List.getD (List.getD gs (Int.toNat i) []) 1 AVal.any))] [AObj.rows true 32 [row]] (AVal.int IntKind.i64 e) [AObj.rows true 32 [row']], Dec.br true, Dec.br false, Dec.br true]) []) (st' := St.mk ([AVal.any, AVal.fsl b 2 gs none, AVal.any, AVal.any, AVal.tt false, AVal.any, AVal.ptr 0 32 0 0, AVal.any, AVal.slc false 1 1 0 16 (some 16), AVal.int IntKind.i64 i, AVal.any, AVal.any, AVal.any, AVal.any, AVal.any, AVal.any, AVal.any, AVal.any, AVal.any, AVal.any, AVal.any, AVal.any, AVal.any, AVal.any, AVal.any, AVal.any, AVal.any, AVal.any, AVal.any, AVal.any, AVal.any, AVal.any, AVal.any, AVal.int IntKind.i64 i, AVal.fsl b 2 gs none, AVal.int IntKind.i64 (↑(List.length gs) : Int), AVal.bool (decide (i < (↑(List.length gs) : Int))), AVal.tt true, AVal.int IntKind.i64 i, AVal.bool (decide (i < 200)), AVal.tt true, AVal.any, AVal.any, AVal.ptr 0 32 0 0, AVal.fsl b 2 gs none, AVal.int IntKind.i64 i, AVal.fptr 2 gs (Int.toNat i) 0, AVal.fptr 2 gs (Int.toNat i) 0, AVal.int IntKind.i64 (AVal.toInt (List.getD (List.getD gs (Int.toNat i) []) 0 AVal.any)), AVal.fsl b 2 gs none, AVal.int IntKind.i64 i, AVal.fptr 2 gs (Int.toNat i) 0, AVal.fptr 2 gs (Int.toNat i) 1, AVal.int IntKind.i64 (AVal.toInt (List.getD (List.getD gs (Int.toNat i) []) 1 AVal.any)), AVal.int IntKind.i64 e, AVal.tt true, AVal.fsl b 2 gs none, AVal.int IntKind.i64 i, AVal.fptr 2 gs (Int.toNat i) 0, AVal.fptr 2 gs (Int.toNat i) 0, AVal.int IntKind.i64 (AVal.toInt (List.getD (List.getD gs (Int.toNat i) []) 0 AVal.any)), AVal.bool (decide (AVal.toInt (List.getD (List.getD gs (Int.toNat i) []) 0 AVal.any) < 0)), AVal.tt false, AVal.fsl b 2 gs none, AVal.int IntKind.i64 i, AVal.fptr 2 gs (Int.toNat i) 0, AVal.fptr 2 gs (Int.toNat i) 0, AVal.int IntKind.i64 (AVal.toInt (List.getD (List.getD gs (Int.toNat i) []) 0 AVal.any)), AVal.bool (decide (AVal.toInt (List.getD (List.getD gs (Int.toNat i) []) 0 AVal.any) > 15)), AVal.tt true, AVal.any, AVal.any, AVal.any, AVal.any, AVal.any, AVal.any, AVal.any, AVal.any, AVal.any, AVal.any, AVal.any, AVal.any, AVal.any, AVal.any, AVal.any, AVal.any, AVal.any, AVal.any, AVal.any, AVal.any, AVal.any, AVal.any, AVal.any, AVal.any, AVal.any, AVal.any, AVal.any, AVal.any, AVal.any, AVal.any, AVal.any, AVal.any, AVal.any, AVal.any, AVal.any, AVal.any, AVal.any, AVal.any, AVal.any, AVal.any, AVal.any, AVal.any, AVal.any, AVal.any, AVal.any, AVal.any, AVal.any, AVal.any, AVal.any, AVal.any, AVal.any, AVal.any, AVal.any, AVal.any, AVal.any, AVal.any, AVal.any, AVal.any, AVal.any, AVal.any, AVal.any, AVal.any, AVal.any, AVal.any, AVal.any, AVal.any, AVal.any, AVal.any, AVal.any, AVal.any, AVal.any, AVal.any, AVal.any, AVal.any, AVal.any, AVal.any, AVal.any, AVal.any, AVal.any, AVal.any, AVal.any, AVal.any, AVal.any, AVal.any, AVal.any, AVal.any, AVal.any, AVal.any, AVal.any, AVal.any, AVal.any, AVal.any, AVal.any, AVal.any, AVal.any, AVal.any, AVal.any, AVal.any, AVal.any, AVal.any, AVal.any, AVal.any, AVal.any, AVal.any, AVal.any, AVal.any, AVal.any, AVal.any, AVal.any, AVal.any, AVal.any, AVal.any]) ([AObj.rows true 32 [row'], AObj.rows true 1 n]) ([]) [decide (AVal.toInt (List.getD (List.getD gs (Int.toNat i) []) 0 AVal.any) > 15) = true,
    decide (Int.toNat i < List.length gs) = true,
    true = true,
    areKinds [kindOf Try.prog 3] [List.getD (List.getD gs (Int.toNat i) []) 0 AVal.any] = true,
    true = true,
    decide (0 ≤ i ∧ i < (↑(List.length gs) : Int)) = true,
    decide (AVal.toInt (List.getD (List.getD gs (Int.toNat i) []) 0 AVal.any) < 0) = false,
    decide (Int.toNat i < List.length gs) = true,
    true = true,
    areKinds [kindOf Try.prog 3] [List.getD (List.getD gs (Int.toNat i) []) 0 AVal.any] = true,
    true = true,
    decide (0 ≤ i ∧ i < (↑(List.length gs) : Int)) = true,
    (e == 0) = true,
    true = true,
    true = true,
    true = true,
    Owed.use (owed Try.prog 0) 10 [0] [AVal.ptr 0 32 0 0, AVal.int IntKind.i64 (AVal.toInt (List.getD (List.getD gs (Int.toNat i) []) 0 AVal.any)), AVal.int IntKind.i64 (AVal.toInt (List.getD (List.getD gs (Int.toNat i) []) 1 AVal.any))] [AObj.rows true 32 [row], AObj.rows true 1 n] [AVal.ptr 0 32 0 0, AVal.int IntKind.i64 (AVal.toInt (List.getD (List.getD gs (Int.toNat i) []) 0 AVal.any)), AVal.int IntKind.i64 (AVal.toInt (List.getD (List.getD gs (Int.toNat i) []) 1 AVal.any))] [AObj.rows true 32 [row]] (AVal.int IntKind.i64 e) [AObj.rows true 32 [row']],
    true = true,
    decide (Int.toNat i < List.length gs) = true,
    true = true,
    areKinds [kindOf Try.prog 3] [List.getD (List.getD gs (Int.toNat i) []) 1 AVal.any] = true,
    true = true,
    true = true,
    true = true,
    decide (0 ≤ i ∧ i < (↑(List.length gs) : Int)) = true,
    true = true,
    true = true,
    true = true,
    decide (Int.toNat i < List.length gs) = true,
    true = true,
    areKinds [kindOf Try.prog 3] [List.getD (List.getD gs (Int.toNat i) []) 0 AVal.any] = true,
    true = true,
    true = true,
    true = true,
    decide (0 ≤ i ∧ i < (↑(List.length gs) : Int)) = true,
    true = true,
    true = true,
    true = true,
    true = true,
    decide (i < 200) = true,
    decide (i < (↑(List.length gs) : Int)) = true]) followed (by kernel_rfl) (allP_of (⟨h1, h2, rfl, h3, rfl, h4, h5, h2, rfl, h3, rfl, h4, h6, rfl, rfl, rfl, ⟨h7, rfl, rfl, rfl⟩, rfl, h2, rfl, h8, rfl, rfl, rfl, h4, rfl, rfl, rfl, h2, rfl, h3, rfl, rfl, rfl, h4, rfl, rfl, rfl, rfl, h9, h10, trivial⟩)) (keepM 182 [1, 6, 8, 9]) ([0, 1]) (by kernel_rfl) (by kernel_rfl) (by kernel_rfl)

theorem owA_3 (row : List AVal) (row' : List AVal) (n : List (List AVal)) (gs : List (List AVal)) (b : Bool) (i : Int) (e : Int)
    (h1 : decide (Int.toNat (AVal.toInt (List.getD (List.getD gs (Int.toNat i) []) 0 AVal.any)) + 0 < List.length n) = true)
    (h2 : decide (0 ≤ AVal.toInt (List.getD (List.getD gs (Int.toNat i) []) 0 AVal.any) ∧ AVal.toInt (List.getD (List.getD gs (Int.toNat i) []) 0 AVal.any) < (↑16 : Int)) = true)
    (h3 : areKinds [kindOf Try.prog 3] [List.getD (List.getD n (Int.toNat (AVal.toInt (List.getD (List.getD gs (Int.toNat i) []) 0 AVal.any)) + 0) []) 0 AVal.any] = true)
    (h4 : decide (Int.toNat i < List.length gs) = true)
    (h5 : areKinds [kindOf Try.prog 3] [List.getD (List.getD gs (Int.toNat i) []) 0 AVal.any] = true)
    (h6 : decide (0 ≤ i ∧ i < (↑(List.length gs) : Int)) = true)
    (h7 : decide (AVal.toInt (List.getD (List.getD gs (Int.toNat i) []) 0 AVal.any) > 15) = false)
    (h8 : decide (AVal.toInt (List.getD (List.getD gs (Int.toNat i) []) 0 AVal.any) < 0) = false)
    (h9 : (e == 0) = true)
    (h10 : FOk Try.prog 10 [AVal.ptr 0 32 0 0, AVal.int IntKind.i64 (AVal.toInt (List.getD (List.getD gs (Int.toNat i) []) 0 AVal.any)), AVal.int IntKind.i64 (AVal.toInt (List.getD (List.getD gs (Int.toNat i) []) 1 AVal.any))] [AObj.rows true 32 [row]] (AVal.int IntKind.i64 e) [AObj.rows true 32 [row']])
    (h11 : areKinds [kindOf Try.prog 3] [List.getD (List.getD gs (Int.toNat i) []) 1 AVal.any] = true)
    (h12 : decide (i < 200) = true)
    (h13 : decide (i < (↑(List.length gs) : Int)) = true) :
    TripN Try.prog 0 (loopNo Try.f3 0) (rgO b gs i) ([AObj.rows true 32 [row], AObj.rows true 1 n]) (AExit.normal) (mkR 182 [(1, AVal.fsl b 2 gs none), (6, AVal.ptr 0 32 0 0), (8, AVal.slc false 1 1 0 16 (some 16)), (9, AVal.int IntKind.i64 (IntKind.wrap IntKind.i64 (i + 1)))]) ([AObj.rows true 32 [row'], AObj.rows true 1 (List.set n (Int.toNat (AVal.toInt (List.getD (List.getD gs (Int.toNat i) []) 0 AVal.any)) + 0) (setCells (List.getD n (Int.toNat (AVal.toInt (List.getD (List.getD gs (Int.toNat i) []) 0 AVal.any)) + 0) []) 0 [AVal.int IntKind.i64 (IntKind.wrap IntKind.i64 (AVal.toInt (List.getD (List.getD n (Int.toNat (AVal.toInt (List.getD (List.getD gs (Int.toNat i) []) 0 AVal.any)) + 0) []) 0 AVal.any) + 1))]))]) :=
  evalT (st := St.mk (rgO b gs i) ([AObj.rows true 32 [row], AObj.rows true 1 n]) ([Dec.br true, Dec.br true, Dec.use [0] [AVal.ptr 0 32 0 0, AVal.int IntKind.i64 (AVal.toInt (List.getD (List.getD gs (Int.toNat i) []) 0 AVal.any)), AVal.int IntKind.i64 (AVal.toInt (List.getD (List.getD gs (Int.toNat i) []) 1 AVal.any))] [AObj.rows true 32 [row]] (AVal.int IntKind.i64 e) [AObj.rows true 32 [row']], Dec.br true, Dec.br false, Dec.br false]) []) (st' := St.mk ([AVal.any, AVal.fsl b 2 gs none, AVal.any, AVal.any, AVal.any, AVal.any, AVal.ptr 0 32 0 0, AVal.any, AVal.slc false 1 1 0 16 (some 16), AVal.int IntKind.i64 (IntKind.wrap IntKind.i64 (i + 1)), AVal.any, AVal.any, AVal.any, AVal.any, AVal.any, AVal.any, AVal.any, AVal.any, AVal.any, AVal.any, AVal.any, AVal.any, AVal.any, AVal.any, AVal.any, AVal.any, AVal.any, AVal.any, AVal.any, AVal.any, AVal.any, AVal.any, AVal.any, AVal.int IntKind.i64 i, AVal.fsl b 2 gs none, AVal.int IntKind.i64 (↑(List.length gs) : Int), AVal.bool (decide (i < (↑(List.length gs) : Int))), AVal.tt true, AVal.int IntKind.i64 i, AVal.bool (decide (i < 200)), AVal.tt true, AVal.int IntKind.i64 i, AVal.int IntKind.i64 (IntKind.wrap IntKind.i64 (i + 1)), AVal.ptr 0 32 0 0, AVal.fsl b 2 gs none, AVal.int IntKind.i64 i, AVal.fptr 2 gs (Int.toNat i) 0, AVal.fptr 2 gs (Int.toNat i) 0, AVal.int IntKind.i64 (AVal.toInt (List.getD (List.getD gs (Int.toNat i) []) 0 AVal.any)), AVal.fsl b 2 gs none, AVal.int IntKind.i64 i, AVal.fptr 2 gs (Int.toNat i) 0, AVal.fptr 2 gs (Int.toNat i) 1, AVal.int IntKind.i64 (AVal.toInt (List.getD (List.getD gs (Int.toNat i) []) 1 AVal.any)), AVal.int IntKind.i64 e, AVal.tt true, AVal.fsl b 2 gs none, AVal.int IntKind.i64 i, AVal.fptr 2 gs (Int.toNat i) 0, AVal.fptr 2 gs (Int.toNat i) 0, AVal.int IntKind.i64 (AVal.toInt (List.getD (List.getD gs (Int.toNat i) []) 0 AVal.any)), AVal.bool (decide (AVal.toInt (List.getD (List.getD gs (Int.toNat i) []) 0 AVal.any) < 0)), AVal.tt false, AVal.fsl b 2 gs none, AVal.int IntKind.i64 i, AVal.fptr 2 gs (Int.toNat i) 0, AVal.fptr 2 gs (Int.toNat i) 0, AVal.int IntKind.i64 (AVal.toInt (List.getD (List.getD gs (Int.toNat i) []) 0 AVal.any)), AVal.bool (decide (AVal.toInt (List.getD (List.getD gs (Int.toNat i) []) 0 AVal.any) > 15)), AVal.tt false, AVal.slc false 1 1 0 16 (some 16), AVal.fsl b 2 gs none, AVal.int IntKind.i64 i, AVal.fptr 2 gs (Int.toNat i) 0, AVal.fptr 2 gs (Int.toNat i) 0, AVal.int IntKind.i64 (AVal.toInt (List.getD (List.getD gs (Int.toNat i) []) 0 AVal.any)), AVal.ptr 1 1 (Int.toNat (AVal.toInt (List.getD (List.getD gs (Int.toNat i) []) 0 AVal.any)) + 0) 0, AVal.int IntKind.i64 (AVal.toInt (List.getD (List.getD n (Int.toNat (AVal.toInt (List.getD (List.getD gs (Int.toNat i) []) 0 AVal.any)) + 0) []) 0 AVal.any)), AVal.int IntKind.i64 (IntKind.wrap IntKind.i64 (AVal.toInt (List.getD (List.getD n (Int.toNat (AVal.toInt (List.getD (List.getD gs (Int.toNat i) []) 0 AVal.any)) + 0) []) 0 AVal.any) + 1)), AVal.ptr 1 1 (Int.toNat (AVal.toInt (List.getD (List.getD gs (Int.toNat i) []) 0 AVal.any)) + 0) 0, AVal.any, AVal.any, AVal.any, AVal.any, AVal.any, AVal.any, AVal.any, AVal.any, AVal.any, AVal.any, AVal.any, AVal.any, AVal.any, AVal.any, AVal.any, AVal.any, AVal.any, AVal.any, AVal.any, AVal.any, AVal.any, AVal.any, AVal.any, AVal.any, AVal.any, AVal.any, AVal.any, AVal.any, AVal.any, AVal.any, AVal.any, AVal.any, AVal.any, AVal.any, AVal.any, AVal.any, AVal.any, AVal.any, AVal.any, AVal.any, AVal.any, AVal.any, AVal.any, AVal.any, AVal.any, AVal.any, AVal.any, AVal.any, AVal.any, AVal.any, AVal.any, AVal.any, AVal.any, AVal.any, AVal.any, AVal.any, AVal.any, AVal.any, AVal.any, AVal.any, AVal.any, AVal.any, AVal.any, AVal.any, AVal.any, AVal.any, AVal.any, AVal.any, AVal.any, AVal.any, AVal.any, AVal.any, AVal.any, AVal.any, AVal.any, AVal.any, AVal.any, AVal.any, AVal.any, AVal.any, AVal.any, AVal.any, AVal.any, AVal.any, AVal.any, AVal.any, AVal.any, AVal.any, AVal.any, AVal.any, AVal.any, AVal.any, AVal.any, AVal.any, AVal.any, AVal.any, AVal.any, AVal.any, AVal.any, AVal.any, AVal.any, AVal.any]) ([AObj.rows true 32 [row'], AObj.rows true 1 (List.set n (Int.toNat (AVal.toInt (List.getD (List.getD gs (Int.toNat i) []) 0 AVal.any)) + 0) (setCells (List.getD n (Int.toNat (AVal.toInt (List.getD (List.getD gs (Int.toNat i) []) 0 AVal.any)) + 0) []) 0 [AVal.int IntKind.i64 (IntKind.wrap IntKind.i64 (AVal.toInt (List.getD (List.getD n (Int.toNat (AVal.toInt (List.getD (List.getD gs (Int.toNat i) []) 0 AVal.any)) + 0) []) 0 AVal.any) + 1))]))]) ([]) [decide (Int.toNat (AVal.toInt (List.getD (List.getD gs (Int.toNat i) []) 0 AVal.any)) + 0 < List.length n) = true,
    true = true,
    decide (0 ≤ AVal.toInt (List.getD (List.getD gs (Int.toNat i) []) 0 AVal.any) ∧ AVal.toInt (List.getD (List.getD gs (Int.toNat i) []) 0 AVal.any) < (↑16 : Int)) = true,
    decide (Int.toNat (AVal.toInt (List.getD (List.getD gs (Int.toNat i) []) 0 AVal.any)) + 0 < List.length n) = true,
    true = true,
    areKinds [kindOf Try.prog 3] [List.getD (List.getD n (Int.toNat (AVal.toInt (List.getD (List.getD gs (Int.toNat i) []) 0 AVal.any)) + 0) []) 0 AVal.any] = true,
    decide (0 ≤ AVal.toInt (List.getD (List.getD gs (Int.toNat i) []) 0 AVal.any) ∧ AVal.toInt (List.getD (List.getD gs (Int.toNat i) []) 0 AVal.any) < (↑16 : Int)) = true,
    decide (Int.toNat i < List.length gs) = true,
    true = true,
    areKinds [kindOf Try.prog 3] [List.getD (List.getD gs (Int.toNat i) []) 0 AVal.any] = true,
    true = true,
    decide (0 ≤ i ∧ i < (↑(List.length gs) : Int)) = true,
    decide (AVal.toInt (List.getD (List.getD gs (Int.toNat i) []) 0 AVal.any) > 15) = false,
    decide (Int.toNat i < List.length gs) = true,
    true = true,
    areKinds [kindOf Try.prog 3] [List.getD (List.getD gs (Int.toNat i) []) 0 AVal.any] = true,
    true = true,
    decide (0 ≤ i ∧ i < (↑(List.length gs) : Int)) = true,
    decide (AVal.toInt (List.getD (List.getD gs (Int.toNat i) []) 0 AVal.any) < 0) = false,
    decide (Int.toNat i < List.length gs) = true,
    true = true,
    areKinds [kindOf Try.prog 3] [List.getD (List.getD gs (Int.toNat i) []) 0 AVal.any] = true,
    true = true,
    decide (0 ≤ i ∧ i < (↑(List.length gs) : Int)) = true,
    (e == 0) = true,
    true = true,
    true = true,
    true = true,
    Owed.use (owed Try.prog 0) 10 [0] [AVal.ptr 0 32 0 0, AVal.int IntKind.i64 (AVal.toInt (List.getD (List.getD gs (Int.toNat i) []) 0 AVal.any)), AVal.int IntKind.i64 (AVal.toInt (List.getD (List.getD gs (Int.toNat i) []) 1 AVal.any))] [AObj.rows true 32 [row], AObj.rows true 1 n] [AVal.ptr 0 32 0 0, AVal.int IntKind.i64 (AVal.toInt (List.getD (List.getD gs (Int.toNat i) []) 0 AVal.any)), AVal.int IntKind.i64 (AVal.toInt (List.getD (List.getD gs (Int.toNat i) []) 1 AVal.any))] [AObj.rows true 32 [row]] (AVal.int IntKind.i64 e) [AObj.rows true 32 [row']],
    true = true,
    decide (Int.toNat i < List.length gs) = true,
    true = true,
    areKinds [kindOf Try.prog 3] [List.getD (List.getD gs (Int.toNat i) []) 1 AVal.any] = true,
    true = true,
    true = true,
    true = true,
    decide (0 ≤ i ∧ i < (↑(List.length gs) : Int)) = true,
    true = true,
    true = true,
    true = true,
    decide (Int.toNat i < List.length gs) = true,
    true = true,
    areKinds [kindOf Try.prog 3] [List.getD (List.getD gs (Int.toNat i) []) 0 AVal.any] = true,
    true = true,
    true = true,
    true = true,
    decide (0 ≤ i ∧ i < (↑(List.length gs) : Int)) = true,
    true = true,
    true = true,
    true = true,
    true = true,
    decide (i < 200) = true,
    decide (i < (↑(List.length gs) : Int)) = true]) followed (by kernel_rfl) (allP_of (⟨h1, rfl, h2, h1, rfl, h3, h2, h4, rfl, h5, rfl, h6, h7, h4, rfl, h5, rfl, h6, h8, h4, rfl, h5, rfl, h6, h9, rfl, rfl, rfl, ⟨h10, rfl, rfl, rfl⟩, rfl, h4, rfl, h11, rfl, rfl, rfl, h6, rfl, rfl, rfl, h4, rfl, h5, rfl, rfl, rfl, h6, rfl, rfl, rfl, rfl, h12, h13, trivial⟩)) (keepM 182 [1, 6, 8, 9]) ([0, 1]) (by kernel_rfl) (by kernel_rfl) (by kernel_rfl)

theorem owA_4 (row : List AVal) (row' : List AVal) (n : List (List AVal)) (gs : List (List AVal)) (b : Bool) (i : Int) (e : Int)
    (h1 : (e == 0) = false)
    (h2 : FOk Try.prog 10 [AVal.ptr 0 32 0 0, AVal.int IntKind.i64 (AVal.toInt (List.getD (List.getD gs (Int.toNat i) []) 0 AVal.any)), AVal.int IntKind.i64 (AVal.toInt (List.getD (List.getD gs (Int.toNat i) []) 1 AVal.any))] [AObj.rows true 32 [row]] (AVal.int IntKind.i64 e) [AObj.rows true 32 [row']])
    (h3 : decide (Int.toNat i < List.length gs) = true)
    (h4 : areKinds [kindOf Try.prog 3] [List.getD (List.getD gs (Int.toNat i) []) 1 AVal.any] = true)
    (h5 : decide (0 ≤ i ∧ i < (↑(List.length gs) : Int)) = true)
    (h6 : areKinds [kindOf Try.prog 3] [List.getD (List.getD gs (Int.toNat i) []) 0 AVal.any] = true)
    (h7 : decide (i < 200) = true)
    (h8 : decide (i < (↑(List.length gs) : Int)) = true) :
    TripN Try.prog 0 (loopNo Try.f3 0) (rgO b gs i) ([AObj.rows true 32 [row], AObj.rows true 1 n]) (AExit.normal) (mkR 182 [(1, AVal.fsl b 2 gs none), (6, AVal.ptr 0 32 0 0), (8, AVal.slc false 1 1 0 16 (some 16)), (9, AVal.int IntKind.i64 (IntKind.wrap IntKind.i64 (i + 1)))]) ([AObj.rows true 32 [row'], AObj.rows true 1 n]) :=
  evalT (st := St.mk (rgO b gs i) ([AObj.rows true 32 [row], AObj.rows true 1 n]) ([Dec.br true, Dec.br true, Dec.use [0] [AVal.ptr 0 32 0 0, AVal.int IntKind.i64 (AVal.toInt (List.getD (List.getD gs (Int.toNat i) []) 0 AVal.any)), AVal.int IntKind.i64 (AVal.toInt (List.getD (List.getD gs (Int.toNat i) []) 1 AVal.any))] [AObj.rows true 32 [row]] (AVal.int IntKind.i64 e) [AObj.rows true 32 [row']], Dec.br false]) []) (st' := St.mk ([AVal.any, AVal.fsl b 2 gs none, AVal.any, AVal.any, AVal.any, AVal.any, AVal.ptr 0 32 0 0, AVal.any, AVal.slc false 1 1 0 16 (some 16), AVal.int IntKind.i64 (IntKind.wrap IntKind.i64 (i + 1)), AVal.any, AVal.any, AVal.any, AVal.any, AVal.any, AVal.any, AVal.any, AVal.any, AVal.any, AVal.any, AVal.any, AVal.any, AVal.any, AVal.any, AVal.any, AVal.any, AVal.any, AVal.any, AVal.any, AVal.any, AVal.any, AVal.any, AVal.any, AVal.int IntKind.i64 i, AVal.fsl b 2 gs none, AVal.int IntKind.i64 (↑(List.length gs) : Int), AVal.bool (decide (i < (↑(List.length gs) : Int))), AVal.tt true, AVal.int IntKind.i64 i, AVal.bool (decide (i < 200)), AVal.tt true, AVal.int IntKind.i64 i, AVal.int IntKind.i64 (IntKind.wrap IntKind.i64 (i + 1)), AVal.ptr 0 32 0 0, AVal.fsl b 2 gs none, AVal.int IntKind.i64 i, AVal.fptr 2 gs (Int.toNat i) 0, AVal.fptr 2 gs (Int.toNat i) 0, AVal.int IntKind.i64 (AVal.toInt (List.getD (List.getD gs (Int.toNat i) []) 0 AVal.any)), AVal.fsl b 2 gs none, AVal.int IntKind.i64 i, AVal.fptr 2 gs (Int.toNat i) 0, AVal.fptr 2 gs (Int.toNat i) 1, AVal.int IntKind.i64 (AVal.toInt (List.getD (List.getD gs (Int.toNat i) []) 1 AVal.any)), AVal.int IntKind.i64 e, AVal.tt false, AVal.any, AVal.any, AVal.any, AVal.any, AVal.any, AVal.any, AVal.any, AVal.any, AVal.any, AVal.any, AVal.any, AVal.any, AVal.any, AVal.any, AVal.any, AVal.any, AVal.any, AVal.any, AVal.any, AVal.any, AVal.any, AVal.any, AVal.any, AVal.any, AVal.any, AVal.any, AVal.any, AVal.any, AVal.any, AVal.any, AVal.any, AVal.any, AVal.any, AVal.any, AVal.any, AVal.any, AVal.any, AVal.any, AVal.any, AVal.any, AVal.any, AVal.any, AVal.any, AVal.any, AVal.any, AVal.any, AVal.any, AVal.any, AVal.any, AVal.any, AVal.any, AVal.any, AVal.any, AVal.any, AVal.any, AVal.any, AVal.any, AVal.any, AVal.any, AVal.any, AVal.any, AVal.any, AVal.any, AVal.any, AVal.any, AVal.any, AVal.any, AVal.any, AVal.any, AVal.any, AVal.any, AVal.any, AVal.any, AVal.any, AVal.any, AVal.any, AVal.any, AVal.any, AVal.any, AVal.any, AVal.any, AVal.any, AVal.any, AVal.any, AVal.any, AVal.any, AVal.any, AVal.any, AVal.any, AVal.any, AVal.any, AVal.any, AVal.any, AVal.any, AVal.any, AVal.any, AVal.any, AVal.any, AVal.any, AVal.any, AVal.any, AVal.any, AVal.any, AVal.any, AVal.any, AVal.any, AVal.any, AVal.any, AVal.any, AVal.any, AVal.any, AVal.any, AVal.any, AVal.any, AVal.any, AVal.any, AVal.any, AVal.any, AVal.any, AVal.any, AVal.any, AVal.any, AVal.any, AVal.any, AVal.any, AVal.any]) ([AObj.rows true 32 [row'], AObj.rows true 1 n]) ([]) [(e == 0) = false,
    true = true,
    true = true,
    true = true,
    Owed.use (owed Try.prog 0) 10 [0] [AVal.ptr 0 32 0 0, AVal.int IntKind.i64 (AVal.toInt (List.getD (List.getD gs (Int.toNat i) []) 0 AVal.any)), AVal.int IntKind.i64 (AVal.toInt (List.getD (List.getD gs (Int.toNat i) []) 1 AVal.any))] [AObj.rows true 32 [row], AObj.rows true 1 n] [AVal.ptr 0 32 0 0, AVal.int IntKind.i64 (AVal.toInt (List.getD (List.getD gs (Int.toNat i) []) 0 AVal.any)), AVal.int IntKind.i64 (AVal.toInt (List.getD (List.getD gs (Int.toNat i) []) 1 AVal.any))] [AObj.rows true 32 [row]] (AVal.int IntKind.i64 e) [AObj.rows true 32 [row']],
    true = true,
    decide (Int.toNat i < List.length gs) = true,
    true = true,
    areKinds [kindOf Try.prog 3] [List.getD (List.getD gs (Int.toNat i) []) 1 AVal.any] = true,
    true = true,
    true = true,
    true = true,
    decide (0 ≤ i ∧ i < (↑(List.length gs) : Int)) = true,
    true = true,
    true = true,
    true = true,
    decide (Int.toNat i < List.length gs) = true,
    true = true,
    areKinds [kindOf Try.prog 3] [List.getD (List.getD gs (Int.toNat i) []) 0 AVal.any] = true,
    true = true,
    true = true,
    true = true,
    decide (0 ≤ i ∧ i < (↑(List.length gs) : Int)) = true,
    true = true,
    true = true,
    true = true,
    true = true,
    decide (i < 200) = true,
    decide (i < (↑(List.length gs) : Int)) = true]) followed (by kernel_rfl) (allP_of (⟨h1, rfl, rfl, rfl, ⟨h2, rfl, rfl, rfl⟩, rfl, h3, rfl, h4, rfl, rfl, rfl, h5, rfl, rfl, rfl, h3, rfl, h6, rfl, rfl, rfl, h5, rfl, rfl, rfl, rfl, h7, h8, trivial⟩)) (keepM 182 [1, 6, 8, 9]) ([0, 1]) (by kernel_rfl) (by kernel_rfl) (by kernel_rfl)

theorem owA_5 (row : List AVal) (row' : List AVal) (n : List (List AVal)) (gs : List (List AVal)) (b : Bool) (i : Int) (e : Int)
    (h1 : decide (i < 200) = false)
    (h2 : decide (i < (↑(List.length gs) : Int)) = true) :
    TripN Try.prog 0 (loopNo Try.f3 0) (rgO b gs i) ([AObj.rows true 32 [row], AObj.rows true 1 n]) (AExit.exit 0) (mkR 182 [(1, AVal.fsl b 2 gs none), (6, AVal.ptr 0 32 0 0), (8, AVal.slc false 1 1 0 16 (some 16)), (9, AVal.int IntKind.i64 i)]) ([AObj.rows true 32 [row], AObj.rows true 1 n]) :=
  evalT (st := St.mk (rgO b gs i) ([AObj.rows true 32 [row], AObj.rows true 1 n]) ([Dec.br true, Dec.br false]) []) (st' := St.mk ([AVal.any, AVal.fsl b 2 gs none, AVal.any, AVal.any, AVal.any, AVal.any, AVal.ptr 0 32 0 0, AVal.any, AVal.slc false 1 1 0 16 (some 16), AVal.int IntKind.i64 i, AVal.any, AVal.any, AVal.any, AVal.any, AVal.any, AVal.any, AVal.any, AVal.any, AVal.any, AVal.any, AVal.any, AVal.any, AVal.any, AVal.any, AVal.any, AVal.any, AVal.any, AVal.any, AVal.any, AVal.any, AVal.any, AVal.any, AVal.any, AVal.int IntKind.i64 i, AVal.fsl b 2 gs none, AVal.int IntKind.i64 (↑(List.length gs) : Int), AVal.bool (decide (i < (↑(List.length gs) : Int))), AVal.tt true, AVal.int IntKind.i64 i, AVal.bool (decide (i < 200)), AVal.tt false, AVal.any, AVal.any, AVal.any, AVal.any, AVal.any, AVal.any, AVal.any, AVal.any, AVal.any, AVal.any, AVal.any, AVal.any, AVal.any, AVal.any, AVal.any, AVal.any, AVal.any, AVal.any, AVal.any, AVal.any, AVal.any, AVal.any, AVal.any, AVal.any, AVal.any, AVal.any, AVal.any, AVal.any, AVal.any, AVal.any, AVal.any, AVal.any, AVal.any, AVal.any, AVal.any, AVal.any, AVal.any, AVal.any, AVal.any, AVal.any, AVal.any, AVal.any, AVal.any, AVal.any, AVal.any, AVal.any, AVal.any, AVal.any, AVal.any, AVal.any, AVal.any, AVal.any, AVal.any, AVal.any, AVal.any, AVal.any, AVal.any, AVal.any, AVal.any, AVal.any, AVal.any, AVal.any, AVal.any, AVal.any, AVal.any, AVal.any, AVal.any, AVal.any, AVal.any, AVal.any, AVal.any, AVal.any, AVal.any, AVal.any, AVal.any, AVal.any, AVal.any, AVal.any, AVal.any, AVal.any, AVal.any, AVal.any, AVal.any, AVal.any, AVal.any, AVal.any, AVal.any, AVal.any, AVal.any, AVal.any, AVal.any, AVal.any, AVal.any, AVal.any, AVal.any, AVal.any, AVal.any, AVal.any, AVal.any, AVal.any, AVal.any, AVal.any, AVal.any, AVal.any, AVal.any, AVal.any, AVal.any, AVal.any, AVal.any, AVal.any, AVal.any, AVal.any, AVal.any, AVal.any, AVal.any, AVal.any, AVal.any, AVal.any, AVal.any, AVal.any, AVal.any, AVal.any, AVal.any, AVal.any, AVal.any, AVal.any, AVal.any, AVal.any, AVal.any, AVal.any, AVal.any, AVal.any, AVal.any, AVal.any, AVal.any, AVal.any, AVal.any, AVal.any, AVal.any, AVal.any, AVal.any]) ([AObj.rows true 32 [row], AObj.rows true 1 n]) ([]) [decide (i < 200) = false,
    decide (i < (↑(List.length gs) : Int)) = true]) followed (by kernel_rfl) (allP_of (⟨h1, h2, trivial⟩)) (keepM 182 [1, 6, 8, 9]) ([0, 1]) (by kernel_rfl) (by kernel_rfl) (by kernel_rfl)

theorem owA_6 (row : List AVal) (row' : List AVal) (n : List (List AVal)) (gs : List (List AVal)) (b : Bool) (i : Int) (e : Int)
    (h1 : decide (i < (↑(List.length gs) : Int)) = false) :
    TripN Try.prog 0 (loopNo Try.f3 0) (rgO b gs i) ([AObj.rows true 32 [row], AObj.rows true 1 n]) (AExit.exit 0) (mkR 182 [(1, AVal.fsl b 2 gs none), (6, AVal.ptr 0 32 0 0), (8, AVal.slc false 1 1 0 16 (some 16)), (9, AVal.int IntKind.i64 i)]) ([AObj.rows true 32 [row], AObj.rows true 1 n]) :=
  evalT (st := St.mk (rgO b gs i) ([AObj.rows true 32 [row], AObj.rows true 1 n]) ([Dec.br false]) []) (st' := St.mk ([AVal.any, AVal.fsl b 2 gs none, AVal.any, AVal.any, AVal.any, AVal.any, AVal.ptr 0 32 0 0, AVal.any, AVal.slc false 1 1 0 16 (some 16), AVal.int IntKind.i64 i, AVal.any, AVal.any, AVal.any, AVal.any, AVal.any, AVal.any, AVal.any, AVal.any, AVal.any, AVal.any, AVal.any, AVal.any, AVal.any, AVal.any, AVal.any, AVal.any, AVal.any, AVal.any, AVal.any, AVal.any, AVal.any, AVal.any, AVal.any, AVal.int IntKind.i64 i, AVal.fsl b 2 gs none, AVal.int IntKind.i64 (↑(List.length gs) : Int), AVal.bool (decide (i < (↑(List.length gs) : Int))), AVal.tt false, AVal.tuple [], AVal.tuple [], AVal.tt false, AVal.any, AVal.any, AVal.any, AVal.any, AVal.any, AVal.any, AVal.any, AVal.any, AVal.any, AVal.any, AVal.any, AVal.any, AVal.any, AVal.any, AVal.any, AVal.any, AVal.any, AVal.any, AVal.any, AVal.any, AVal.any, AVal.any, AVal.any, AVal.any, AVal.any, AVal.any, AVal.any, AVal.any, AVal.any, AVal.any, AVal.any, AVal.any, AVal.any, AVal.any, AVal.any, AVal.any, AVal.any, AVal.any, AVal.any, AVal.any, AVal.any, AVal.any, AVal.any, AVal.any, AVal.any, AVal.any, AVal.any, AVal.any, AVal.any, AVal.any, AVal.any, AVal.any, AVal.any, AVal.any, AVal.any, AVal.any, AVal.any, AVal.any, AVal.any, AVal.any, AVal.any, AVal.any, AVal.any, AVal.any, AVal.any, AVal.any, AVal.any, AVal.any, AVal.any, AVal.any, AVal.any, AVal.any, AVal.any, AVal.any, AVal.any, AVal.any, AVal.any, AVal.any, AVal.any, AVal.any, AVal.any, AVal.any, AVal.any, AVal.any, AVal.any, AVal.any, AVal.any, AVal.any, AVal.any, AVal.any, AVal.any, AVal.any, AVal.any, AVal.any, AVal.any, AVal.any, AVal.any, AVal.any, AVal.any, AVal.any, AVal.any, AVal.any, AVal.any, AVal.any, AVal.any, AVal.any, AVal.any, AVal.any, AVal.any, AVal.any, AVal.any, AVal.any, AVal.any, AVal.any, AVal.any, AVal.any, AVal.any, AVal.any, AVal.any, AVal.any, AVal.any, AVal.any, AVal.any, AVal.any, AVal.any, AVal.any, AVal.any, AVal.any, AVal.any, AVal.any, AVal.any, AVal.any, AVal.any, AVal.any, AVal.any, AVal.any, AVal.any, AVal.any, AVal.any, AVal.any, AVal.any]) ([AObj.rows true 32 [row], AObj.rows true 1 n]) ([]) [decide (i < (↑(List.length gs) : Int)) = false]) followed (by kernel_rfl) (allP_of (⟨h1, trivial⟩)) (keepM 182 [1, 6, 8, 9]) ([0, 1]) (by kernel_rfl) (by kernel_rfl) (by kernel_rfl)


theorem owC_1 (row : List AVal) (n : List (List AVal)) (rs : List (List AVal)) (b : Bool) (i : Int) (s : Int) (g : Int) (e : Int) (f : Int)
    (h1 : (g != AVal.toInt (List.getD (List.getD rs (Int.toNat i) []) 2 AVal.any)) = true)
    (h2 : decide (Int.toNat i < List.length rs) = true)
    (h3 : areKinds [kindOf Try.prog 3] [List.getD (List.getD rs (Int.toNat i) []) 2 AVal.any] = true)
    (h4 : decide (0 ≤ i ∧ i < (↑(List.length rs) : Int)) = true)
    (h5 : FOk Try.prog 12 [AVal.ptr 0 32 0 0, AVal.int IntKind.i64 s] [AObj.rows true 32 [row]] (AVal.tuple [AVal.int IntKind.i64 g, AVal.int IntKind.i64 e, AVal.int IntKind.i64 f]) [AObj.rows true 32 [row]])
    (h6 : decide (s ≤ AVal.toInt (List.getD (List.getD rs (Int.toNat i) []) 1 AVal.any)) = true)
    (h7 : areKinds [kindOf Try.prog 3] [List.getD (List.getD rs (Int.toNat i) []) 1 AVal.any] = true) :
    TripN Try.prog 0 (loopNo Try.f3 2) (rgO3 b rs i s) ([AObj.rows true 32 [row], AObj.rows true 1 n]) (AExit.ret) (mkR 182 [(6, AVal.ptr 0 32 0 0), (8, AVal.slc false 1 1 0 16 (some 16)), (12, AVal.fsl b 3 rs none), (13, AVal.int IntKind.i64 i), (14, AVal.int IntKind.i64 s)]) ([AObj.rows true 32 [row], AObj.rows true 1 n]) :=
  evalT (st := St.mk (rgO3 b rs i s) ([AObj.rows true 32 [row], AObj.rows true 1 n]) ([Dec.br true, Dec.use [0] [AVal.ptr 0 32 0 0, AVal.int IntKind.i64 s] [AObj.rows true 32 [row]] (AVal.tuple [AVal.int IntKind.i64 g, AVal.int IntKind.i64 e, AVal.int IntKind.i64 f]) [AObj.rows true 32 [row]], Dec.br true]) []) (st' := St.mk ([AVal.any, AVal.any, AVal.any, AVal.any, AVal.tt false, AVal.any, AVal.ptr 0 32 0 0, AVal.any, AVal.slc false 1 1 0 16 (some 16), AVal.any, AVal.any, AVal.any, AVal.fsl b 3 rs none, AVal.int IntKind.i64 i, AVal.int IntKind.i64 s, AVal.int IntKind.i64 g, AVal.int IntKind.i64 e, AVal.int IntKind.i64 f, AVal.any, AVal.any, AVal.any, AVal.any, AVal.any, AVal.any, AVal.any, AVal.any, AVal.any, AVal.any, AVal.any, AVal.any, AVal.any, AVal.any, AVal.any, AVal.any, AVal.any, AVal.any, AVal.any, AVal.any, AVal.any, AVal.any, AVal.any, AVal.any, AVal.any, AVal.any, AVal.any, AVal.any, AVal.any, AVal.any, AVal.any, AVal.any, AVal.any, AVal.any, AVal.any, AVal.any, AVal.any, AVal.any, AVal.any, AVal.any, AVal.any, AVal.any, AVal.any, AVal.any, AVal.any, AVal.any, AVal.any, AVal.any, AVal.any, AVal.any, AVal.any, AVal.any, AVal.any, AVal.any, AVal.any, AVal.any, AVal.any, AVal.any, AVal.any, AVal.any, AVal.any, AVal.any, AVal.any, AVal.any, AVal.any, AVal.any, AVal.any, AVal.any, AVal.any, AVal.any, AVal.any, AVal.any, AVal.any, AVal.any, AVal.any, AVal.any, AVal.any, AVal.any, AVal.any, AVal.any, AVal.any, AVal.any, AVal.any, AVal.any, AVal.any, AVal.any, AVal.any, AVal.any, AVal.any, AVal.any, AVal.any, AVal.any, AVal.any, AVal.any, AVal.any, AVal.any, AVal.any, AVal.any, AVal.any, AVal.any, AVal.any, AVal.any, AVal.any, AVal.any, AVal.any, AVal.any, AVal.any, AVal.any, AVal.any, AVal.any, AVal.any, AVal.any, AVal.int IntKind.i64 s, AVal.fsl b 3 rs none, AVal.int IntKind.i64 i, AVal.fptr 3 rs (Int.toNat i) 0, AVal.fptr 3 rs (Int.toNat i) 1, AVal.int IntKind.i64 (AVal.toInt (List.getD (List.getD rs (Int.toNat i) []) 1 AVal.any)), AVal.tt true, AVal.any, AVal.any, AVal.tuple [AVal.int IntKind.i64 g, AVal.int IntKind.i64 e, AVal.int IntKind.i64 f], AVal.ptr 0 32 0 0, AVal.int IntKind.i64 s, AVal.tuple [AVal.int IntKind.i64 g, AVal.int IntKind.i64 e, AVal.int IntKind.i64 f], AVal.int IntKind.i64 g, AVal.int IntKind.i64 e, AVal.int IntKind.i64 f, AVal.int IntKind.i64 g, AVal.fsl b 3 rs none, AVal.int IntKind.i64 i, AVal.fptr 3 rs (Int.toNat i) 0, AVal.fptr 3 rs (Int.toNat i) 2, AVal.int IntKind.i64 (AVal.toInt (List.getD (List.getD rs (Int.toNat i) []) 2 AVal.any)), AVal.bool (g != AVal.toInt (List.getD (List.getD rs (Int.toNat i) []) 2 AVal.any)), AVal.tt true, AVal.tuple [], AVal.tuple [], AVal.tuple [], AVal.tuple [], AVal.tuple [], AVal.tuple [], AVal.tuple [], AVal.tt true, AVal.tt true, AVal.tuple [], AVal.tuple [], AVal.tt true, AVal.any, AVal.any, AVal.any, AVal.any, AVal.any, AVal.any, AVal.any, AVal.any, AVal.any, AVal.any, AVal.any, AVal.any, AVal.any, AVal.any, AVal.any, AVal.any]) ([AObj.rows true 32 [row], AObj.rows true 1 n]) ([]) [(g != AVal.toInt (List.getD (List.getD rs (Int.toNat i) []) 2 AVal.any)) = true,
    decide (Int.toNat i < List.length rs) = true,
    true = true,
    areKinds [kindOf Try.prog 3] [List.getD (List.getD rs (Int.toNat i) []) 2 AVal.any] = true,
    decide (0 ≤ i ∧ i < (↑(List.length rs) : Int)) = true,
    Owed.use (owed Try.prog 0) 12 [0] [AVal.ptr 0 32 0 0, AVal.int IntKind.i64 s] [AObj.rows true 32 [row], AObj.rows true 1 n] [AVal.ptr 0 32 0 0, AVal.int IntKind.i64 s] [AObj.rows true 32 [row]] (AVal.tuple [AVal.int IntKind.i64 g, AVal.int IntKind.i64 e, AVal.int IntKind.i64 f]) [AObj.rows true 32 [row]],
    decide (s ≤ AVal.toInt (List.getD (List.getD rs (Int.toNat i) []) 1 AVal.any)) = true,
    decide (Int.toNat i < List.length rs) = true,
    true = true,
    areKinds [kindOf Try.prog 3] [List.getD (List.getD rs (Int.toNat i) []) 1 AVal.any] = true,
    decide (0 ≤ i ∧ i < (↑(List.length rs) : Int)) = true]) followed (by kernel_rfl) (allP_of (⟨h1, h2, rfl, h3, h4, ⟨h5, rfl, rfl, rfl⟩, h6, h2, rfl, h7, h4, trivial⟩)) (keepM 182 [6, 8, 12, 13, 14]) ([0, 1]) (by kernel_rfl) (by kernel_rfl) (by kernel_rfl)

theorem owC_2 (row : List AVal) (n : List (List AVal)) (rs : List (List AVal)) (b : Bool) (i : Int) (s : Int) (g : Int) (e : Int) (f : Int)
    (h1 : (e != IntKind.wrap IntKind.i64 (1 + AVal.toInt (List.getD (List.getD n (Int.toNat s + 0) []) 0 AVal.any))) = true)
    (h2 : decide (Int.toNat s + 0 < List.length n) = true)
    (h3 : areKinds [kindOf Try.prog 3] [List.getD (List.getD n (Int.toNat s + 0) []) 0 AVal.any] = true)
    (h4 : decide (0 ≤ s ∧ s < (↑16 : Int)) = true)
    (h5 : (g != AVal.toInt (List.getD (List.getD rs (Int.toNat i) []) 2 AVal.any)) = false)
    (h6 : decide (Int.toNat i < List.length rs) = true)
    (h7 : areKinds [kindOf Try.prog 3] [List.getD (List.getD rs (Int.toNat i) []) 2 AVal.any] = true)
    (h8 : decide (0 ≤ i ∧ i < (↑(List.length rs) : Int)) = true)
    (h9 : FOk Try.prog 12 [AVal.ptr 0 32 0 0, AVal.int IntKind.i64 s] [AObj.rows true 32 [row]] (AVal.tuple [AVal.int IntKind.i64 g, AVal.int IntKind.i64 e, AVal.int IntKind.i64 f]) [AObj.rows true 32 [row]])
    (h10 : decide (s ≤ AVal.toInt (List.getD (List.getD rs (Int.toNat i) []) 1 AVal.any)) = true)
    (h11 : areKinds [kindOf Try.prog 3] [List.getD (List.getD rs (Int.toNat i) []) 1 AVal.any] = true) :
    TripN Try.prog 0 (loopNo Try.f3 2) (rgO3 b rs i s) ([AObj.rows true 32 [row], AObj.rows true 1 n]) (AExit.ret) (mkR 182 [(6, AVal.ptr 0 32 0 0), (8, AVal.slc false 1 1 0 16 (some 16)), (12, AVal.fsl b 3 rs none), (13, AVal.int IntKind.i64 i), (14, AVal.int IntKind.i64 s)]) ([AObj.rows true 32 [row], AObj.rows true 1 n]) :=
  evalT (st := St.mk (rgO3 b rs i s) ([AObj.rows true 32 [row], AObj.rows true 1 n]) ([Dec.br true, Dec.use [0] [AVal.ptr 0 32 0 0, AVal.int IntKind.i64 s] [AObj.rows true 32 [row]] (AVal.tuple [AVal.int IntKind.i64 g, AVal.int IntKind.i64 e, AVal.int IntKind.i64 f]) [AObj.rows true 32 [row]], Dec.br false, Dec.br true]) []) (st' := St.mk ([AVal.any, AVal.any, AVal.any, AVal.any, AVal.tt false, AVal.any, AVal.ptr 0 32 0 0, AVal.any, AVal.slc false 1 1 0 16 (some 16), AVal.any, AVal.any, AVal.any, AVal.fsl b 3 rs none, AVal.int IntKind.i64 i, AVal.int IntKind.i64 s, AVal.int IntKind.i64 g, AVal.int IntKind.i64 e, AVal.int IntKind.i64 f, AVal.any, AVal.any, AVal.any, AVal.any, AVal.any, AVal.any, AVal.any, AVal.any, AVal.any, AVal.any, AVal.any, AVal.any, AVal.any, AVal.any, AVal.any, AVal.any, AVal.any, AVal.any, AVal.any, AVal.any, AVal.any, AVal.any, AVal.any, AVal.any, AVal.any, AVal.any, AVal.any, AVal.any, AVal.any, AVal.any, AVal.any, AVal.any, AVal.any, AVal.any, AVal.any, AVal.any, AVal.any, AVal.any, AVal.any, AVal.any, AVal.any, AVal.any, AVal.any, AVal.any, AVal.any, AVal.any, AVal.any, AVal.any, AVal.any, AVal.any, AVal.any, AVal.any, AVal.any, AVal.any, AVal.any, AVal.any, AVal.any, AVal.any, AVal.any, AVal.any, AVal.any, AVal.any, AVal.any, AVal.any, AVal.any, AVal.any, AVal.any, AVal.any, AVal.any, AVal.any, AVal.any, AVal.any, AVal.any, AVal.any, AVal.any, AVal.any, AVal.any, AVal.any, AVal.any, AVal.any, AVal.any, AVal.any, AVal.any, AVal.any, AVal.any, AVal.any, AVal.any, AVal.any, AVal.any, AVal.any, AVal.any, AVal.any, AVal.any, AVal.any, AVal.any, AVal.any, AVal.any, AVal.any, AVal.any, AVal.any, AVal.any, AVal.any, AVal.any, AVal.any, AVal.any, AVal.any, AVal.any, AVal.any, AVal.any, AVal.any, AVal.any, AVal.any, AVal.int IntKind.i64 s, AVal.fsl b 3 rs none, AVal.int IntKind.i64 i, AVal.fptr 3 rs (Int.toNat i) 0, AVal.fptr 3 rs (Int.toNat i) 1, AVal.int IntKind.i64 (AVal.toInt (List.getD (List.getD rs (Int.toNat i) []) 1 AVal.any)), AVal.tt true, AVal.any, AVal.any, AVal.tuple [AVal.int IntKind.i64 g, AVal.int IntKind.i64 e, AVal.int IntKind.i64 f], AVal.ptr 0 32 0 0, AVal.int IntKind.i64 s, AVal.tuple [AVal.int IntKind.i64 g, AVal.int IntKind.i64 e, AVal.int IntKind.i64 f], AVal.int IntKind.i64 g, AVal.int IntKind.i64 e, AVal.int IntKind.i64 f, AVal.int IntKind.i64 g, AVal.fsl b 3 rs none, AVal.int IntKind.i64 i, AVal.fptr 3 rs (Int.toNat i) 0, AVal.fptr 3 rs (Int.toNat i) 2, AVal.int IntKind.i64 (AVal.toInt (List.getD (List.getD rs (Int.toNat i) []) 2 AVal.any)), AVal.bool (g != AVal.toInt (List.getD (List.getD rs (Int.toNat i) []) 2 AVal.any)), AVal.tt false, AVal.int IntKind.i64 e, AVal.slc false 1 1 0 16 (some 16), AVal.int IntKind.i64 s, AVal.ptr 1 1 (Int.toNat s + 0) 0, AVal.int IntKind.i64 (AVal.toInt (List.getD (List.getD n (Int.toNat s + 0) []) 0 AVal.any)), AVal.int IntKind.i64 (IntKind.wrap IntKind.i64 (1 + AVal.toInt (List.getD (List.getD n (Int.toNat s + 0) []) 0 AVal.any))), AVal.bool (e != IntKind.wrap IntKind.i64 (1 + AVal.toInt (List.getD (List.getD n (Int.toNat s + 0) []) 0 AVal.any))), AVal.bool (e != IntKind.wrap IntKind.i64 (1 + AVal.toInt (List.getD (List.getD n (Int.toNat s + 0) []) 0 AVal.any))), AVal.tt true, AVal.tuple [], AVal.tuple [], AVal.tt true, AVal.any, AVal.any, AVal.any, AVal.any, AVal.any, AVal.any, AVal.any, AVal.any, AVal.any, AVal.any, AVal.any, AVal.any, AVal.any, AVal.any, AVal.any, AVal.any]) ([AObj.rows true 32 [row], AObj.rows true 1 n]) ([]) [(e != IntKind.wrap IntKind.i64 (1 + AVal.toInt (List.getD (List.getD n (Int.toNat s + 0) []) 0 AVal.any))) = true,
    decide (Int.toNat s + 0 < List.length n) = true,
    true = true,
    areKinds [kindOf Try.prog 3] [List.getD (List.getD n (Int.toNat s + 0) []) 0 AVal.any] = true,
    decide (0 ≤ s ∧ s < (↑16 : Int)) = true,
    (g != AVal.toInt (List.getD (List.getD rs (Int.toNat i) []) 2 AVal.any)) = false,
    decide (Int.toNat i < List.length rs) = true,
    true = true,
    areKinds [kindOf Try.prog 3] [List.getD (List.getD rs (Int.toNat i) []) 2 AVal.any] = true,
    decide (0 ≤ i ∧ i < (↑(List.length rs) : Int)) = true,
    Owed.use (owed Try.prog 0) 12 [0] [AVal.ptr 0 32 0 0, AVal.int IntKind.i64 s] [AObj.rows true 32 [row], AObj.rows true 1 n] [AVal.ptr 0 32 0 0, AVal.int IntKind.i64 s] [AObj.rows true 32 [row]] (AVal.tuple [AVal.int IntKind.i64 g, AVal.int IntKind.i64 e, AVal.int IntKind.i64 f]) [AObj.rows true 32 [row]],
    decide (s ≤ AVal.toInt (List.getD (List.getD rs (Int.toNat i) []) 1 AVal.any)) = true,
    decide (Int.toNat i < List.length rs) = true,
    true = true,
    areKinds [kindOf Try.prog 3] [List.getD (List.getD rs (Int.toNat i) []) 1 AVal.any] = true,
    decide (0 ≤ i ∧ i < (↑(List.length rs) : Int)) = true]) followed (by kernel_rfl) (allP_of (⟨h1, h2, rfl, h3, h4, h5, h6, rfl, h7, h8, ⟨h9, rfl, rfl, rfl⟩, h10, h6, rfl, h11, h8, trivial⟩)) (keepM 182 [6, 8, 12, 13, 14]) ([0, 1]) (by kernel_rfl) (by kernel_rfl) (by kernel_rfl)

theorem owC_3 (row : List AVal) (n : List (List AVal)) (rs : List (List AVal)) (b : Bool) (i : Int) (s : Int) (g : Int) (e : Int) (f : Int)
    (h1 : (f != 0) = true)
    (h2 : (e != IntKind.wrap IntKind.i64 (1 + AVal.toInt (List.getD (List.getD n (Int.toNat s + 0) []) 0 AVal.any))) = false)
    (h3 : decide (Int.toNat s + 0 < List.length n) = true)
    (h4 : areKinds [kindOf Try.prog 3] [List.getD (List.getD n (Int.toNat s + 0) []) 0 AVal.any] = true)
    (h5 : decide (0 ≤ s ∧ s < (↑16 : Int)) = true)
    (h6 : (g != AVal.toInt (List.getD (List.getD rs (Int.toNat i) []) 2 AVal.any)) = false)
    (h7 : decide (Int.toNat i < List.length rs) = true)
    (h8 : areKinds [kindOf Try.prog 3] [List.getD (List.getD rs (Int.toNat i) []) 2 AVal.any] = true)
    (h9 : decide (0 ≤ i ∧ i < (↑(List.length rs) : Int)) = true)
    (h10 : FOk Try.prog 12 [AVal.ptr 0 32 0 0, AVal.int IntKind.i64 s] [AObj.rows true 32 [row]] (AVal.tuple [AVal.int IntKind.i64 g, AVal.int IntKind.i64 e, AVal.int IntKind.i64 f]) [AObj.rows true 32 [row]])
    (h11 : decide (s ≤ AVal.toInt (List.getD (List.getD rs (Int.toNat i) []) 1 AVal.any)) = true)
    (h12 : areKinds [kindOf Try.prog 3] [List.getD (List.getD rs (Int.toNat i) []) 1 AVal.any] = true) :
    TripN Try.prog 0 (loopNo Try.f3 2) (rgO3 b rs i s) ([AObj.rows true 32 [row], AObj.rows true 1 n]) (AExit.ret) (mkR 182 [(6, AVal.ptr 0 32 0 0), (8, AVal.slc false 1 1 0 16 (some 16)), (12, AVal.fsl b 3 rs none), (13, AVal.int IntKind.i64 i), (14, AVal.int IntKind.i64 s)]) ([AObj.rows true 32 [row], AObj.rows true 1 n]) :=
  evalT (st := St.mk (rgO3 b rs i s) ([AObj.rows true 32 [row], AObj.rows true 1 n]) ([Dec.br true, Dec.use [0] [AVal.ptr 0 32 0 0, AVal.int IntKind.i64 s] [AObj.rows true 32 [row]] (AVal.tuple [AVal.int IntKind.i64 g, AVal.int IntKind.i64 e, AVal.int IntKind.i64 f]) [AObj.rows true 32 [row]], Dec.br false, Dec.br false, Dec.br true]) []) (st' := St.mk ([AVal.any, AVal.any, AVal.any, AVal.any, AVal.tt false, AVal.any, AVal.ptr 0 32 0 0, AVal.any, AVal.slc false 1 1 0 16 (some 16), AVal.any, AVal.any, AVal.any, AVal.fsl b 3 rs none, AVal.int IntKind.i64 i, AVal.int IntKind.i64 s, AVal.int IntKind.i64 g, AVal.int IntKind.i64 e, AVal.int IntKind.i64 f, AVal.any, AVal.any, AVal.any, AVal.any, AVal.any, AVal.any, AVal.any, AVal.any, AVal.any, AVal.any, AVal.any, AVal.any, AVal.any, AVal.any, AVal.any, AVal.any, AVal.any, AVal.any, AVal.any, AVal.any, AVal.any, AVal.any, AVal.any, AVal.any, AVal.any, AVal.any, AVal.any, AVal.any, AVal.any, AVal.any, AVal.any, AVal.any, AVal.any, AVal.any, AVal.any, AVal.any, AVal.any, AVal.any, AVal.any, AVal.any, AVal.any, AVal.any, AVal.any, AVal.any, AVal.any, AVal.any, AVal.any, AVal.any, AVal.any, AVal.any, AVal.any, AVal.any, AVal.any, AVal.any, AVal.any, AVal.any, AVal.any, AVal.any, AVal.any, AVal.any, AVal.any, AVal.any, AVal.any, AVal.any, AVal.any, AVal.any, AVal.any, AVal.any, AVal.any, AVal.any, AVal.any, AVal.any, AVal.any, AVal.any, AVal.any, AVal.any, AVal.any, AVal.any, AVal.any, AVal.any, AVal.any, AVal.any, AVal.any, AVal.any, AVal.any, AVal.any, AVal.any, AVal.any, AVal.any, AVal.any, AVal.any, AVal.any, AVal.any, AVal.any, AVal.any, AVal.any, AVal.any, AVal.any, AVal.any, AVal.any, AVal.any, AVal.any, AVal.any, AVal.any, AVal.any, AVal.any, AVal.any, AVal.any, AVal.any, AVal.any, AVal.any, AVal.any, AVal.int IntKind.i64 s, AVal.fsl b 3 rs none, AVal.int IntKind.i64 i, AVal.fptr 3 rs (Int.toNat i) 0, AVal.fptr 3 rs (Int.toNat i) 1, AVal.int IntKind.i64 (AVal.toInt (List.getD (List.getD rs (Int.toNat i) []) 1 AVal.any)), AVal.tt true, AVal.any, AVal.any, AVal.tuple [AVal.int IntKind.i64 g, AVal.int IntKind.i64 e, AVal.int IntKind.i64 f], AVal.ptr 0 32 0 0, AVal.int IntKind.i64 s, AVal.tuple [AVal.int IntKind.i64 g, AVal.int IntKind.i64 e, AVal.int IntKind.i64 f], AVal.int IntKind.i64 g, AVal.int IntKind.i64 e, AVal.int IntKind.i64 f, AVal.int IntKind.i64 g, AVal.fsl b 3 rs none, AVal.int IntKind.i64 i, AVal.fptr 3 rs (Int.toNat i) 0, AVal.fptr 3 rs (Int.toNat i) 2, AVal.int IntKind.i64 (AVal.toInt (List.getD (List.getD rs (Int.toNat i) []) 2 AVal.any)), AVal.bool (g != AVal.toInt (List.getD (List.getD rs (Int.toNat i) []) 2 AVal.any)), AVal.tt false, AVal.int IntKind.i64 e, AVal.slc false 1 1 0 16 (some 16), AVal.int IntKind.i64 s, AVal.ptr 1 1 (Int.toNat s + 0) 0, AVal.int IntKind.i64 (AVal.toInt (List.getD (List.getD n (Int.toNat s + 0) []) 0 AVal.any)), AVal.int IntKind.i64 (IntKind.wrap IntKind.i64 (1 + AVal.toInt (List.getD (List.getD n (Int.toNat s + 0) []) 0 AVal.any))), AVal.bool (e != IntKind.wrap IntKind.i64 (1 + AVal.toInt (List.getD (List.getD n (Int.toNat s + 0) []) 0 AVal.any))), AVal.bool (e != IntKind.wrap IntKind.i64 (1 + AVal.toInt (List.getD (List.getD n (Int.toNat s + 0) []) 0 AVal.any))), AVal.tt false, AVal.int IntKind.i64 f, AVal.bool (f != 0), AVal.tt true, AVal.any, AVal.any, AVal.any, AVal.any, AVal.any, AVal.any, AVal.any, AVal.any, AVal.any, AVal.any, AVal.any, AVal.any, AVal.any, AVal.any, AVal.any, AVal.any]) ([AObj.rows true 32 [row], AObj.rows true 1 n]) ([]) [(f != 0) = true,
    (e != IntKind.wrap IntKind.i64 (1 + AVal.toInt (List.getD (List.getD n (Int.toNat s + 0) []) 0 AVal.any))) = false,
    decide (Int.toNat s + 0 < List.length n) = true,
    true = true,
    areKinds [kindOf Try.prog 3] [List.getD (List.getD n (Int.toNat s + 0) []) 0 AVal.any] = true,
    decide (0 ≤ s ∧ s < (↑16 : Int)) = true,
    (g != AVal.toInt (List.getD (List.getD rs (Int.toNat i) []) 2 AVal.any)) = false,
    decide (Int.toNat i < List.length rs) = true,
    true = true,
    areKinds [kindOf Try.prog 3] [List.getD (List.getD rs (Int.toNat i) []) 2 AVal.any] = true,
    decide (0 ≤ i ∧ i < (↑(List.length rs) : Int)) = true,
    Owed.use (owed Try.prog 0) 12 [0] [AVal.ptr 0 32 0 0, AVal.int IntKind.i64 s] [AObj.rows true 32 [row], AObj.rows true 1 n] [AVal.ptr 0 32 0 0, AVal.int IntKind.i64 s] [AObj.rows true 32 [row]] (AVal.tuple [AVal.int IntKind.i64 g, AVal.int IntKind.i64 e, AVal.int IntKind.i64 f]) [AObj.rows true 32 [row]],
    decide (s ≤ AVal.toInt (List.getD (List.getD rs (Int.toNat i) []) 1 AVal.any)) = true,
    decide (Int.toNat i < List.length rs) = true,
    true = true,
    areKinds [kindOf Try.prog 3] [List.getD (List.getD rs (Int.toNat i) []) 1 AVal.any] = true,
    decide (0 ≤ i ∧ i < (↑(List.length rs) : Int)) = true]) followed (by kernel_rfl) (allP_of (⟨h1, h2, h3, rfl, h4, h5, h6, h7, rfl, h8, h9, ⟨h10, rfl, rfl, rfl⟩, h11, h7, rfl, h12, h9, trivial⟩)) (keepM 182 [6, 8, 12, 13, 14]) ([0, 1]) (by kernel_rfl) (by kernel_rfl) (by kernel_rfl)

theorem owC_4 (row : List AVal) (n : List (List AVal)) (rs : List (List AVal)) (b : Bool) (i : Int) (s : Int) (g : Int) (e : Int) (f : Int)
    (h1 : (f != 0) = false)
    (h2 : (e != IntKind.wrap IntKind.i64 (1 + AVal.toInt (List.getD (List.getD n (Int.toNat s + 0) []) 0 AVal.any))) = false)
    (h3 : decide (Int.toNat s + 0 < List.length n) = true)
    (h4 : areKinds [kindOf Try.prog 3] [List.getD (List.getD n (Int.toNat s + 0) []) 0 AVal.any] = true)
    (h5 : decide (0 ≤ s ∧ s < (↑16 : Int)) = true)
    (h6 : (g != AVal.toInt (List.getD (List.getD rs (Int.toNat i) []) 2 AVal.any)) = false)
    (h7 : decide (Int.toNat i < List.length rs) = true)
    (h8 : areKinds [kindOf Try.prog 3] [List.getD (List.getD rs (Int.toNat i) []) 2 AVal.any] = true)
    (h9 : decide (0 ≤ i ∧ i < (↑(List.length rs) : Int)) = true)
    (h10 : FOk Try.prog 12 [AVal.ptr 0 32 0 0, AVal.int IntKind.i64 s] [AObj.rows true 32 [row]] (AVal.tuple [AVal.int IntKind.i64 g, AVal.int IntKind.i64 e, AVal.int IntKind.i64 f]) [AObj.rows true 32 [row]])
    (h11 : decide (s ≤ AVal.toInt (List.getD (List.getD rs (Int.toNat i) []) 1 AVal.any)) = true)
    (h12 : areKinds [kindOf Try.prog 3] [List.getD (List.getD rs (Int.toNat i) []) 1 AVal.any] = true) :
    TripN Try.prog 0 (loopNo Try.f3 2) (rgO3 b rs i s) ([AObj.rows true 32 [row], AObj.rows true 1 n]) (AExit.normal) (mkR 182 [(6, AVal.ptr 0 32 0 0), (8, AVal.slc false 1 1 0 16 (some 16)), (12, AVal.fsl b 3 rs none), (13, AVal.int IntKind.i64 i), (14, AVal.int IntKind.i64 (IntKind.wrap IntKind.i64 (s + 1)))]) ([AObj.rows true 32 [row], AObj.rows true 1 n]) :=
  evalT (st := St.mk (rgO3 b rs i s) ([AObj.rows true 32 [row], AObj.rows true 1 n]) ([Dec.br true, Dec.use [0] [AVal.ptr 0 32 0 0, AVal.int IntKind.i64 s] [AObj.rows true 32 [row]] (AVal.tuple [AVal.int IntKind.i64 g, AVal.int IntKind.i64 e, AVal.int IntKind.i64 f]) [AObj.rows true 32 [row]], Dec.br false, Dec.br false, Dec.br false]) []) (st' := St.mk ([AVal.any, AVal.any, AVal.any, AVal.any, AVal.any, AVal.any, AVal.ptr 0 32 0 0, AVal.any, AVal.slc false 1 1 0 16 (some 16), AVal.any, AVal.any, AVal.any, AVal.fsl b 3 rs none, AVal.int IntKind.i64 i, AVal.int IntKind.i64 (IntKind.wrap IntKind.i64 (s + 1)), AVal.int IntKind.i64 g, AVal.int IntKind.i64 e, AVal.int IntKind.i64 f, AVal.any, AVal.any, AVal.any, AVal.any, AVal.any, AVal.any, AVal.any, AVal.any, AVal.any, AVal.any, AVal.any, AVal.any, AVal.any, AVal.any, AVal.any, AVal.any, AVal.any, AVal.any, AVal.any, AVal.any, AVal.any, AVal.any, AVal.any, AVal.any, AVal.any, AVal.any, AVal.any, AVal.any, AVal.any, AVal.any, AVal.any, AVal.any, AVal.any, AVal.any, AVal.any, AVal.any, AVal.any, AVal.any, AVal.any, AVal.any, AVal.any, AVal.any, AVal.any, AVal.any, AVal.any, AVal.any, AVal.any, AVal.any, AVal.any, AVal.any, AVal.any, AVal.any, AVal.any, AVal.any, AVal.any, AVal.any, AVal.any, AVal.any, AVal.any, AVal.any, AVal.any, AVal.any, AVal.any, AVal.any, AVal.any, AVal.any, AVal.any, AVal.any, AVal.any, AVal.any, AVal.any, AVal.any, AVal.any, AVal.any, AVal.any, AVal.any, AVal.any, AVal.any, AVal.any, AVal.any, AVal.any, AVal.any, AVal.any, AVal.any, AVal.any, AVal.any, AVal.any, AVal.any, AVal.any, AVal.any, AVal.any, AVal.any, AVal.any, AVal.any, AVal.any, AVal.any, AVal.any, AVal.any, AVal.any, AVal.any, AVal.any, AVal.any, AVal.any, AVal.any, AVal.any, AVal.any, AVal.any, AVal.any, AVal.any, AVal.any, AVal.any, AVal.any, AVal.int IntKind.i64 s, AVal.fsl b 3 rs none, AVal.int IntKind.i64 i, AVal.fptr 3 rs (Int.toNat i) 0, AVal.fptr 3 rs (Int.toNat i) 1, AVal.int IntKind.i64 (AVal.toInt (List.getD (List.getD rs (Int.toNat i) []) 1 AVal.any)), AVal.tt true, AVal.int IntKind.i64 s, AVal.int IntKind.i64 (IntKind.wrap IntKind.i64 (s + 1)), AVal.tuple [AVal.int IntKind.i64 g, AVal.int IntKind.i64 e, AVal.int IntKind.i64 f], AVal.ptr 0 32 0 0, AVal.int IntKind.i64 s, AVal.tuple [AVal.int IntKind.i64 g, AVal.int IntKind.i64 e, AVal.int IntKind.i64 f], AVal.int IntKind.i64 g, AVal.int IntKind.i64 e, AVal.int IntKind.i64 f, AVal.int IntKind.i64 g, AVal.fsl b 3 rs none, AVal.int IntKind.i64 i, AVal.fptr 3 rs (Int.toNat i) 0, AVal.fptr 3 rs (Int.toNat i) 2, AVal.int IntKind.i64 (AVal.toInt (List.getD (List.getD rs (Int.toNat i) []) 2 AVal.any)), AVal.bool (g != AVal.toInt (List.getD (List.getD rs (Int.toNat i) []) 2 AVal.any)), AVal.tt false, AVal.int IntKind.i64 e, AVal.slc false 1 1 0 16 (some 16), AVal.int IntKind.i64 s, AVal.ptr 1 1 (Int.toNat s + 0) 0, AVal.int IntKind.i64 (AVal.toInt (List.getD (List.getD n (Int.toNat s + 0) []) 0 AVal.any)), AVal.int IntKind.i64 (IntKind.wrap IntKind.i64 (1 + AVal.toInt (List.getD (List.getD n (Int.toNat s + 0) []) 0 AVal.any))), AVal.bool (e != IntKind.wrap IntKind.i64 (1 + AVal.toInt (List.getD (List.getD n (Int.toNat s + 0) []) 0 AVal.any))), AVal.bool (e != IntKind.wrap IntKind.i64 (1 + AVal.toInt (List.getD (List.getD n (Int.toNat s + 0) []) 0 AVal.any))), AVal.tt false, AVal.int IntKind.i64 f, AVal.bool (f != 0), AVal.tt false, AVal.any, AVal.any, AVal.any, AVal.any, AVal.any, AVal.any, AVal.any, AVal.any, AVal.any, AVal.any, AVal.any, AVal.any, AVal.any, AVal.any, AVal.any, AVal.any]) ([AObj.rows true 32 [row], AObj.rows true 1 n]) ([]) [(f != 0) = false,
    (e != IntKind.wrap IntKind.i64 (1 + AVal.toInt (List.getD (List.getD n (Int.toNat s + 0) []) 0 AVal.any))) = false,
    decide (Int.toNat s + 0 < List.length n) = true,
    true = true,
    areKinds [kindOf Try.prog 3] [List.getD (List.getD n (Int.toNat s + 0) []) 0 AVal.any] = true,
    decide (0 ≤ s ∧ s < (↑16 : Int)) = true,
    (g != AVal.toInt (List.getD (List.getD rs (Int.toNat i) []) 2 AVal.any)) = false,
    decide (Int.toNat i < List.length rs) = true,
    true = true,
    areKinds [kindOf Try.prog 3] [List.getD (List.getD rs (Int.toNat i) []) 2 AVal.any] = true,
    decide (0 ≤ i ∧ i < (↑(List.length rs) : Int)) = true,
    Owed.use (owed Try.prog 0) 12 [0] [AVal.ptr 0 32 0 0, AVal.int IntKind.i64 s] [AObj.rows true 32 [row], AObj.rows true 1 n] [AVal.ptr 0 32 0 0, AVal.int IntKind.i64 s] [AObj.rows true 32 [row]] (AVal.tuple [AVal.int IntKind.i64 g, AVal.int IntKind.i64 e, AVal.int IntKind.i64 f]) [AObj.rows true 32 [row]],
    decide (s ≤ AVal.toInt (List.getD (List.getD rs (Int.toNat i) []) 1 AVal.any)) = true,
    decide (Int.toNat i < List.length rs) = true,
    true = true,
    areKinds [kindOf Try.prog 3] [List.getD (List.getD rs (Int.toNat i) []) 1 AVal.any] = true,
    decide (0 ≤ i ∧ i < (↑(List.length rs) : Int)) = true]) followed (by kernel_rfl) (allP_of (⟨h1, h2, h3, rfl, h4, h5, h6, h7, rfl, h8, h9, ⟨h10, rfl, rfl, rfl⟩, h11, h7, rfl, h12, h9, trivial⟩)) (keepM 182 [6, 8, 12, 13, 14]) ([0, 1]) (by kernel_rfl) (by kernel_rfl) (by kernel_rfl)

theorem owC_5 (row : List AVal) (n : List (List AVal)) (rs : List (List AVal)) (b : Bool) (i : Int) (s : Int) (g : Int) (e : Int) (f : Int)
    (h1 : decide (s ≤ AVal.toInt (List.getD (List.getD rs (Int.toNat i) []) 1 AVal.any)) = false)
    (h2 : decide (Int.toNat i < List.length rs) = true)
    (h3 : areKinds [kindOf Try.prog 3] [List.getD (List.getD rs (Int.toNat i) []) 1 AVal.any] = true)
    (h4 : decide (0 ≤ i ∧ i < (↑(List.length rs) : Int)) = true) :
    TripN Try.prog 0 (loopNo Try.f3 2) (rgO3 b rs i s) ([AObj.rows true 32 [row], AObj.rows true 1 n]) (AExit.exit 4) (mkR 182 [(6, AVal.ptr 0 32 0 0), (8, AVal.slc false 1 1 0 16 (some 16)), (12, AVal.fsl b 3 rs none), (13, AVal.int IntKind.i64 i), (14, AVal.int IntKind.i64 s)]) ([AObj.rows true 32 [row], AObj.rows true 1 n]) :=
  evalT (st := St.mk (rgO3 b rs i s) ([AObj.rows true 32 [row], AObj.rows true 1 n]) ([Dec.br false]) []) (st' := St.mk ([AVal.any, AVal.any, AVal.any, AVal.any, AVal.any, AVal.any, AVal.ptr 0 32 0 0, AVal.any, AVal.slc false 1 1 0 16 (some 16), AVal.any, AVal.any, AVal.any, AVal.fsl b 3 rs none, AVal.int IntKind.i64 i, AVal.int IntKind.i64 s, AVal.any, AVal.any, AVal.any, AVal.any, AVal.any, AVal.any, AVal.any, AVal.any, AVal.any, AVal.any, AVal.any, AVal.any, AVal.any, AVal.any, AVal.any, AVal.any, AVal.any, AVal.any, AVal.any, AVal.any, AVal.any, AVal.any, AVal.any, AVal.any, AVal.any, AVal.any, AVal.any, AVal.any, AVal.any, AVal.any, AVal.any, AVal.any, AVal.any, AVal.any, AVal.any, AVal.any, AVal.any, AVal.any, AVal.any, AVal.any, AVal.any, AVal.any, AVal.any, AVal.any, AVal.any, AVal.any, AVal.any, AVal.any, AVal.any, AVal.any, AVal.any, AVal.any, AVal.any, AVal.any, AVal.any, AVal.any, AVal.any, AVal.any, AVal.any, AVal.any, AVal.any, AVal.any, AVal.any, AVal.any, AVal.any, AVal.any, AVal.any, AVal.any, AVal.any, AVal.any, AVal.any, AVal.any, AVal.any, AVal.any, AVal.any, AVal.any, AVal.any, AVal.any, AVal.any, AVal.any, AVal.any, AVal.any, AVal.any, AVal.any, AVal.any, AVal.any, AVal.any, AVal.any, AVal.any, AVal.any, AVal.any, AVal.any, AVal.any, AVal.any, AVal.any, AVal.any, AVal.any, AVal.any, AVal.any, AVal.any, AVal.any, AVal.any, AVal.any, AVal.any, AVal.any, AVal.any, AVal.any, AVal.any, AVal.any, AVal.any, AVal.any, AVal.any, AVal.any, AVal.any, AVal.any, AVal.int IntKind.i64 s, AVal.fsl b 3 rs none, AVal.int IntKind.i64 i, AVal.fptr 3 rs (Int.toNat i) 0, AVal.fptr 3 rs (Int.toNat i) 1, AVal.int IntKind.i64 (AVal.toInt (List.getD (List.getD rs (Int.toNat i) []) 1 AVal.any)), AVal.tt false, AVal.any, AVal.any, AVal.any, AVal.any, AVal.any, AVal.any, AVal.any, AVal.any, AVal.any, AVal.any, AVal.any, AVal.any, AVal.any, AVal.any, AVal.any, AVal.any, AVal.any, AVal.any, AVal.any, AVal.any, AVal.any, AVal.any, AVal.any, AVal.any, AVal.any, AVal.any, AVal.any, AVal.any, AVal.any, AVal.any, AVal.any, AVal.any, AVal.any, AVal.any, AVal.any, AVal.any, AVal.any, AVal.any, AVal.any, AVal.any, AVal.any, AVal.any, AVal.any, AVal.any, AVal.any]) ([AObj.rows true 32 [row], AObj.rows true 1 n]) ([]) [decide (s ≤ AVal.toInt (List.getD (List.getD rs (Int.toNat i) []) 1 AVal.any)) = false,
    decide (Int.toNat i < List.length rs) = true,
    true = true,
    areKinds [kindOf Try.prog 3] [List.getD (List.getD rs (Int.toNat i) []) 1 AVal.any] = true,
    decide (0 ≤ i ∧ i < (↑(List.length rs) : Int)) = true]) followed (by kernel_rfl) (allP_of (⟨h1, h2, rfl, h3, h4, trivial⟩)) (keepM 182 [6, 8, 12, 13, 14]) ([0, 1]) (by kernel_rfl) (by kernel_rfl) (by kernel_rfl)


theorem owB_1 (row : List AVal) (n : List (List AVal)) (rs : List (List AVal)) (b : Bool) (i : Int) (nx : Int) (lt : Int) (s' : Int)
    (h1 : (AVal.toInt (List.getD (List.getD rs (Int.toNat i) []) 0 AVal.any) != nx) = true)
    (h2 : decide (Int.toNat i < List.length rs) = true)
    (h3 : areKinds [kindOf Try.prog 3] [List.getD (List.getD rs (Int.toNat i) []) 0 AVal.any] = true)
    (h4 : decide (0 ≤ i ∧ i < (↑(List.length rs) : Int)) = true)
    (h5 : decide (i < (↑(List.length rs) : Int)) = true) :
    TripN Try.prog 0 (loopNo Try.f3 1) (rgO2 nx lt b rs i) ([AObj.rows true 32 [row], AObj.rows true 1 n]) (AExit.ret) (mkR 182 [(6, AVal.ptr 0 32 0 0), (8, AVal.slc false 1 1 0 16 (some 16)), (10, AVal.int IntKind.i64 nx), (11, AVal.int IntKind.i64 lt), (12, AVal.fsl b 3 rs none), (13, AVal.int IntKind.i64 i)]) ([AObj.rows true 32 [row], AObj.rows true 1 n]) :=
  evalT (st := St.mk (rgO2 nx lt b rs i) ([AObj.rows true 32 [row], AObj.rows true 1 n]) ([Dec.br true, Dec.br true]) []) (st' := St.mk ([AVal.any, AVal.any, AVal.any, AVal.any, AVal.tt false, AVal.any, AVal.ptr 0 32 0 0, AVal.any, AVal.slc false 1 1 0 16 (some 16), AVal.any, AVal.int IntKind.i64 nx, AVal.int IntKind.i64 lt, AVal.fsl b 3 rs none, AVal.int IntKind.i64 i, AVal.any, AVal.any, AVal.any, AVal.any, AVal.any, AVal.any, AVal.any, AVal.any, AVal.any, AVal.any, AVal.any, AVal.any, AVal.any, AVal.any, AVal.any, AVal.any, AVal.any, AVal.any, AVal.any, AVal.any, AVal.any, AVal.any, AVal.any, AVal.any, AVal.any, AVal.any, AVal.any, AVal.any, AVal.any, AVal.any, AVal.any, AVal.any, AVal.any, AVal.any, AVal.any, AVal.any, AVal.any, AVal.any, AVal.any, AVal.any, AVal.any, AVal.any, AVal.any, AVal.any, AVal.any, AVal.any, AVal.any, AVal.any, AVal.any, AVal.any, AVal.any, AVal.any, AVal.any, AVal.any, AVal.any, AVal.any, AVal.any, AVal.any, AVal.any, AVal.any, AVal.any, AVal.any, AVal.any, AVal.any, AVal.any, AVal.any, AVal.any, AVal.any, AVal.int IntKind.i64 i, AVal.fsl b 3 rs none, AVal.int IntKind.i64 (↑(List.length rs) : Int), AVal.tt true, AVal.any, AVal.any, AVal.fsl b 3 rs none, AVal.int IntKind.i64 i, AVal.fptr 3 rs (Int.toNat i) 0, AVal.fptr 3 rs (Int.toNat i) 0, AVal.int IntKind.i64 (AVal.toInt (List.getD (List.getD rs (Int.toNat i) []) 0 AVal.any)), AVal.int IntKind.i64 nx, AVal.bool (AVal.toInt (List.getD (List.getD rs (Int.toNat i) []) 0 AVal.any) != nx), AVal.tt true, AVal.tuple [], AVal.tuple [], AVal.tuple [], AVal.tuple [], AVal.tuple [], AVal.tuple [], AVal.tuple [], AVal.tuple [], AVal.tuple [], AVal.tuple [], AVal.tuple [], AVal.tt true, AVal.tt true, AVal.tuple [], AVal.tuple [], AVal.tuple [], AVal.tuple [], AVal.tuple [], AVal.tuple [], AVal.tt true, AVal.tt true, AVal.tuple [], AVal.tuple [], AVal.tuple [], AVal.tuple [], AVal.tuple [], AVal.tuple [], AVal.tuple [], AVal.tt true, AVal.any, AVal.any, AVal.any, AVal.any, AVal.any, AVal.any, AVal.any, AVal.any, AVal.any, AVal.any, AVal.any, AVal.any, AVal.any, AVal.any, AVal.any, AVal.any, AVal.any, AVal.any, AVal.any, AVal.any, AVal.any, AVal.any, AVal.any, AVal.any, AVal.any, AVal.any, AVal.any, AVal.any, AVal.any, AVal.any, AVal.any, AVal.any, AVal.any, AVal.any, AVal.any, AVal.any, AVal.any, AVal.any, AVal.any, AVal.any, AVal.any, AVal.any, AVal.any, AVal.any, AVal.any, AVal.any, AVal.any, AVal.any, AVal.any, AVal.any, AVal.any, AVal.any, AVal.any, AVal.any, AVal.any, AVal.any, AVal.any]) ([AObj.rows true 32 [row], AObj.rows true 1 n]) ([]) [true = true,
    true = true,
    true = true,
    true = true,
    true = true,
    true = true,
    true = true,
    true = true,
    true = true,
    true = true,
    true = true,
    true = true,
    true = true,
    true = true,
    true = true,
    true = true,
    true = true,
    true = true,
    true = true,
    true = true,
    true = true,
    true = true,
    true = true,
    true = true,
    true = true,
    true = true,
    true = true,
    true = true,
    true = true,
    true = true,
    true = true,
    true = true,
    true = true,
    (AVal.toInt (List.getD (List.getD rs (Int.toNat i) []) 0 AVal.any) != nx) = true,
    true = true,
    true = true,
    true = true,
    true = true,
    true = true,
    decide (Int.toNat i < List.length rs) = true,
    true = true,
    areKinds [kindOf Try.prog 3] [List.getD (List.getD rs (Int.toNat i) []) 0 AVal.any] = true,
    true = true,
    true = true,
    true = true,
    decide (0 ≤ i ∧ i < (↑(List.length rs) : Int)) = true,
    true = true,
    true = true,
    true = true,
    decide (i < (↑(List.length rs) : Int)) = true]) followed (by kernel_rfl) (allP_of (⟨rfl, rfl, rfl, rfl, rfl, rfl, rfl, rfl, rfl, rfl, rfl, rfl, rfl, rfl, rfl, rfl, rfl, rfl, rfl, rfl, rfl, rfl, rfl, rfl, rfl, rfl, rfl, rfl, rfl, rfl, rfl, rfl, rfl, h1, rfl, rfl, rfl, rfl, rfl, h2, rfl, h3, rfl, rfl, rfl, h4, rfl, rfl, rfl, h5, trivial⟩)) (keepM 182 [6, 8, 10, 11, 12, 13]) ([0, 1]) (by kernel_rfl) (by kernel_rfl) (by kernel_rfl)

theorem owB_2 (row : List AVal) (n : List (List AVal)) (rs : List (List AVal)) (b : Bool) (i : Int) (nx : Int) (lt : Int) (s' : Int)
    (h1 : decide (AVal.toInt (List.getD (List.getD rs (Int.toNat i) []) 1 AVal.any) < AVal.toInt (List.getD (List.getD rs (Int.toNat i) []) 0 AVal.any)) = true)
    (h2 : decide (Int.toNat i < List.length rs) = true)
    (h3 : areKinds [kindOf Try.prog 3] [List.getD (List.getD rs (Int.toNat i) []) 0 AVal.any] = true)
    (h4 : decide (0 ≤ i ∧ i < (↑(List.length rs) : Int)) = true)
    (h5 : areKinds [kindOf Try.prog 3] [List.getD (List.getD rs (Int.toNat i) []) 1 AVal.any] = true)
    (h6 : (AVal.toInt (List.getD (List.getD rs (Int.toNat i) []) 0 AVal.any) != nx) = false)
    (h7 : decide (i < (↑(List.length rs) : Int)) = true) :
    TripN Try.prog 0 (loopNo Try.f3 1) (rgO2 nx lt b rs i) ([AObj.rows true 32 [row], AObj.rows true 1 n]) (AExit.ret) (mkR 182 [(6, AVal.ptr 0 32 0 0), (8, AVal.slc false 1 1 0 16 (some 16)), (10, AVal.int IntKind.i64 nx), (11, AVal.int IntKind.i64 lt), (12, AVal.fsl b 3 rs none), (13, AVal.int IntKind.i64 i)]) ([AObj.rows true 32 [row], AObj.rows true 1 n]) :=
  evalT (st := St.mk (rgO2 nx lt b rs i) ([AObj.rows true 32 [row], AObj.rows true 1 n]) ([Dec.br true, Dec.br false, Dec.br true]) []) (st' := St.mk ([AVal.any, AVal.any, AVal.any, AVal.any, AVal.tt false, AVal.any, AVal.ptr 0 32 0 0, AVal.any, AVal.slc false 1 1 0 16 (some 16), AVal.any, AVal.int IntKind.i64 nx, AVal.int IntKind.i64 lt, AVal.fsl b 3 rs none, AVal.int IntKind.i64 i, AVal.any, AVal.any, AVal.any, AVal.any, AVal.any, AVal.any, AVal.any, AVal.any, AVal.any, AVal.any, AVal.any, AVal.any, AVal.any, AVal.any, AVal.any, AVal.any, AVal.any, AVal.any, AVal.any, AVal.any, AVal.any, AVal.any, AVal.any, AVal.any, AVal.any, AVal.any, AVal.any, AVal.any, AVal.any, AVal.any, AVal.any, AVal.any, AVal.any, AVal.any, AVal.any, AVal.any, AVal.any, AVal.any, AVal.any, AVal.any, AVal.any, AVal.any, AVal.any, AVal.any, AVal.any, AVal.any, AVal.any, AVal.any, AVal.any, AVal.any, AVal.any, AVal.any, AVal.any, AVal.any, AVal.any, AVal.any, AVal.any, AVal.any, AVal.any, AVal.any, AVal.any, AVal.any, AVal.any, AVal.any, AVal.any, AVal.any, AVal.any, AVal.any, AVal.int IntKind.i64 i, AVal.fsl b 3 rs none, AVal.int IntKind.i64 (↑(List.length rs) : Int), AVal.tt true, AVal.any, AVal.any, AVal.fsl b 3 rs none, AVal.int IntKind.i64 i, AVal.fptr 3 rs (Int.toNat i) 0, AVal.fptr 3 rs (Int.toNat i) 0, AVal.int IntKind.i64 (AVal.toInt (List.getD (List.getD rs (Int.toNat i) []) 0 AVal.any)), AVal.int IntKind.i64 nx, AVal.bool (AVal.toInt (List.getD (List.getD rs (Int.toNat i) []) 0 AVal.any) != nx), AVal.tt false, AVal.fsl b 3 rs none, AVal.int IntKind.i64 i, AVal.fptr 3 rs (Int.toNat i) 0, AVal.fptr 3 rs (Int.toNat i) 1, AVal.int IntKind.i64 (AVal.toInt (List.getD (List.getD rs (Int.toNat i) []) 1 AVal.any)), AVal.fsl b 3 rs none, AVal.int IntKind.i64 i, AVal.fptr 3 rs (Int.toNat i) 0, AVal.fptr 3 rs (Int.toNat i) 0, AVal.int IntKind.i64 (AVal.toInt (List.getD (List.getD rs (Int.toNat i) []) 0 AVal.any)), AVal.bool (decide (AVal.toInt (List.getD (List.getD rs (Int.toNat i) []) 1 AVal.any) < AVal.toInt (List.getD (List.getD rs (Int.toNat i) []) 0 AVal.any))), AVal.bool (decide (AVal.toInt (List.getD (List.getD rs (Int.toNat i) []) 1 AVal.any) < AVal.toInt (List.getD (List.getD rs (Int.toNat i) []) 0 AVal.any))), AVal.tt true, AVal.tuple [], AVal.tuple [], AVal.tuple [], AVal.tuple [], AVal.tuple [], AVal.tuple [], AVal.tt true, AVal.tt true, AVal.tuple [], AVal.tuple [], AVal.tuple [], AVal.tuple [], AVal.tuple [], AVal.tuple [], AVal.tuple [], AVal.tt true, AVal.any, AVal.any, AVal.any, AVal.any, AVal.any, AVal.any, AVal.any, AVal.any, AVal.any, AVal.any, AVal.any, AVal.any, AVal.any, AVal.any, AVal.any, AVal.any, AVal.any, AVal.any, AVal.any, AVal.any, AVal.any, AVal.any, AVal.any, AVal.any, AVal.any, AVal.any, AVal.any, AVal.any, AVal.any, AVal.any, AVal.any, AVal.any, AVal.any, AVal.any, AVal.any, AVal.any, AVal.any, AVal.any, AVal.any, AVal.any, AVal.any, AVal.any, AVal.any, AVal.any, AVal.any, AVal.any, AVal.any, AVal.any, AVal.any, AVal.any, AVal.any, AVal.any, AVal.any, AVal.any, AVal.any, AVal.any, AVal.any]) ([AObj.rows true 32 [row], AObj.rows true 1 n]) ([]) [true = true,
    true = true,
    true = true,
    true = true,
    true = true,
    true = true,
    true = true,
    true = true,
    true = true,
    true = true,
    true = true,
    true = true,
    true = true,
    true = true,
    true = true,
    true = true,
    true = true,
    true = true,
    true = true,
    true = true,
    decide (AVal.toInt (List.getD (List.getD rs (Int.toNat i) []) 1 AVal.any) < AVal.toInt (List.getD (List.getD rs (Int.toNat i) []) 0 AVal.any)) = true,
    true = true,
    true = true,
    true = true,
    true = true,
    decide (Int.toNat i < List.length rs) = true,
    true = true,
    areKinds [kindOf Try.prog 3] [List.getD (List.getD rs (Int.toNat i) []) 0 AVal.any] = true,
    true = true,
    true = true,
    decide (0 ≤ i ∧ i < (↑(List.length rs) : Int)) = true,
    true = true,
    true = true,
    true = true,
    decide (Int.toNat i < List.length rs) = true,
    true = true,
    areKinds [kindOf Try.prog 3] [List.getD (List.getD rs (Int.toNat i) []) 1 AVal.any] = true,
    true = true,
    true = true,
    decide (0 ≤ i ∧ i < (↑(List.length rs) : Int)) = true,
    true = true,
    true = true,
    (AVal.toInt (List.getD (List.getD rs (Int.toNat i) []) 0 AVal.any) != nx) = false,
    true = true,
    true = true,
    true = true,
    true = true,
    true = true,
    decide (Int.toNat i < List.length rs) = true,
    true = true,
    areKinds [kindOf Try.prog 3] [List.getD (List.getD rs (Int.toNat i) []) 0 AVal.any] = true,
    true = true,
    true = true,
    true = true,
    decide (0 ≤ i ∧ i < (↑(List.length rs) : Int)) = true,
    true = true,
    true = true,
    true = true,
    decide (i < (↑(List.length rs) : Int)) = true]) followed (by kernel_rfl) (allP_of (⟨rfl, rfl, rfl, rfl, rfl, rfl, rfl, rfl, rfl, rfl, rfl, rfl, rfl, rfl, rfl, rfl, rfl, rfl, rfl, rfl, h1, rfl, rfl, rfl, rfl, h2, rfl, h3, rfl, rfl, h4, rfl, rfl, rfl, h2, rfl, h5, rfl, rfl, h4, rfl, rfl, h6, rfl, rfl, rfl, rfl, rfl, h2, rfl, h3, rfl, rfl, rfl, h4, rfl, rfl, rfl, h7, trivial⟩)) (keepM 182 [6, 8, 10, 11, 12, 13]) ([0, 1]) (by kernel_rfl) (by kernel_rfl) (by kernel_rfl)

theorem owB_3 (row : List AVal) (n : List (List AVal)) (rs : List (List AVal)) (b : Bool) (i : Int) (nx : Int) (lt : Int) (s' : Int)
    (h1 : decide (AVal.toInt (List.getD (List.getD rs (Int.toNat i) []) 1 AVal.any) > 15) = true)
    (h2 : decide (Int.toNat i < List.length rs) = true)
    (h3 : areKinds [kindOf Try.prog 3] [List.getD (List.getD rs (Int.toNat i) []) 1 AVal.any] = true)
    (h4 : decide (0 ≤ i ∧ i < (↑(List.length rs) : Int)) = true)
    (h5 : decide (AVal.toInt (List.getD (List.getD rs (Int.toNat i) []) 1 AVal.any) < AVal.toInt (List.getD (List.getD rs (Int.toNat i) []) 0 AVal.any)) = false)
    (h6 : areKinds [kindOf Try.prog 3] [List.getD (List.getD rs (Int.toNat i) []) 0 AVal.any] = true)
    (h7 : (AVal.toInt (List.getD (List.getD rs (Int.toNat i) []) 0 AVal.any) != nx) = false)
    (h8 : decide (i < (↑(List.length rs) : Int)) = true) :
    TripN Try.prog 0 (loopNo Try.f3 1) (rgO2 nx lt b rs i) ([AObj.rows true 32 [row], AObj.rows true 1 n]) (AExit.ret) (mkR 182 [(6, AVal.ptr 0 32 0 0), (8, AVal.slc false 1 1 0 16 (some 16)), (10, AVal.int IntKind.i64 nx), (11, AVal.int IntKind.i64 lt), (12, AVal.fsl b 3 rs none), (13, AVal.int IntKind.i64 i)]) ([AObj.rows true 32 [row], AObj.rows true 1 n]) :=
  evalT (st := St.mk (rgO2 nx lt b rs i) ([AObj.rows true 32 [row], AObj.rows true 1 n]) ([Dec.br true, Dec.br false, Dec.br false, Dec.br true]) []) (st' := St.mk ([AVal.any, AVal.any, AVal.any, AVal.any, AVal.tt false, AVal.any, AVal.ptr 0 32 0 0, AVal.any, AVal.slc false 1 1 0 16 (some 16), AVal.any, AVal.int IntKind.i64 nx, AVal.int IntKind.i64 lt, AVal.fsl b 3 rs none, AVal.int IntKind.i64 i, AVal.any, AVal.any, AVal.any, AVal.any, AVal.any, AVal.any, AVal.any, AVal.any, AVal.any, AVal.any, AVal.any, AVal.any, AVal.any, AVal.any, AVal.any, AVal.any, AVal.any, AVal.any, AVal.any, AVal.any, AVal.any, AVal.any, AVal.any, AVal.any, AVal.any, AVal.any, AVal.any, AVal.any, AVal.any, AVal.any, AVal.any, AVal.any, AVal.any, AVal.any, AVal.any, AVal.any, AVal.any, AVal.any, AVal.any, AVal.any, AVal.any, AVal.any, AVal.any, AVal.any, AVal.any, AVal.any, AVal.any, AVal.any, AVal.any, AVal.any, AVal.any, AVal.any, AVal.any, AVal.any, AVal.any, AVal.any, AVal.any, AVal.any, AVal.any, AVal.any, AVal.any, AVal.any, AVal.any, AVal.any, AVal.any, AVal.any, AVal.any, AVal.any, AVal.int IntKind.i64 i, AVal.fsl b 3 rs none, AVal.int IntKind.i64 (↑(List.length rs) : Int), AVal.tt true, AVal.any, AVal.any, AVal.fsl b 3 rs none, AVal.int IntKind.i64 i, AVal.fptr 3 rs (Int.toNat i) 0, AVal.fptr 3 rs (Int.toNat i) 0, AVal.int IntKind.i64 (AVal.toInt (List.getD (List.getD rs (Int.toNat i) []) 0 AVal.any)), AVal.int IntKind.i64 nx, AVal.bool (AVal.toInt (List.getD (List.getD rs (Int.toNat i) []) 0 AVal.any) != nx), AVal.tt false, AVal.fsl b 3 rs none, AVal.int IntKind.i64 i, AVal.fptr 3 rs (Int.toNat i) 0, AVal.fptr 3 rs (Int.toNat i) 1, AVal.int IntKind.i64 (AVal.toInt (List.getD (List.getD rs (Int.toNat i) []) 1 AVal.any)), AVal.fsl b 3 rs none, AVal.int IntKind.i64 i, AVal.fptr 3 rs (Int.toNat i) 0, AVal.fptr 3 rs (Int.toNat i) 0, AVal.int IntKind.i64 (AVal.toInt (List.getD (List.getD rs (Int.toNat i) []) 0 AVal.any)), AVal.bool (decide (AVal.toInt (List.getD (List.getD rs (Int.toNat i) []) 1 AVal.any) < AVal.toInt (List.getD (List.getD rs (Int.toNat i) []) 0 AVal.any))), AVal.bool (decide (AVal.toInt (List.getD (List.getD rs (Int.toNat i) []) 1 AVal.any) < AVal.toInt (List.getD (List.getD rs (Int.toNat i) []) 0 AVal.any))), AVal.tt false, AVal.fsl b 3 rs none, AVal.int IntKind.i64 i, AVal.fptr 3 rs (Int.toNat i) 0, AVal.fptr 3 rs (Int.toNat i) 1, AVal.int IntKind.i64 (AVal.toInt (List.getD (List.getD rs (Int.toNat i) []) 1 AVal.any)), AVal.bool (decide (AVal.toInt (List.getD (List.getD rs (Int.toNat i) []) 1 AVal.any) > 15)), AVal.bool (decide (AVal.toInt (List.getD (List.getD rs (Int.toNat i) []) 1 AVal.any) > 15)), AVal.tt true, AVal.tuple [], AVal.tuple [], AVal.tuple [], AVal.tuple [], AVal.tuple [], AVal.tuple [], AVal.tuple [], AVal.tt true, AVal.any, AVal.any, AVal.any, AVal.any, AVal.any, AVal.any, AVal.any, AVal.any, AVal.any, AVal.any, AVal.any, AVal.any, AVal.any, AVal.any, AVal.any, AVal.any, AVal.any, AVal.any, AVal.any, AVal.any, AVal.any, AVal.any, AVal.any, AVal.any, AVal.any, AVal.any, AVal.any, AVal.any, AVal.any, AVal.any, AVal.any, AVal.any, AVal.any, AVal.any, AVal.any, AVal.any, AVal.any, AVal.any, AVal.any, AVal.any, AVal.any, AVal.any, AVal.any, AVal.any, AVal.any, AVal.any, AVal.any, AVal.any, AVal.any, AVal.any, AVal.any, AVal.any, AVal.any, AVal.any, AVal.any, AVal.any, AVal.any]) ([AObj.rows true 32 [row], AObj.rows true 1 n]) ([]) [true = true,
    true = true,
    true = true,
    true = true,
    true = true,
    true = true,
    true = true,
    true = true,
    true = true,
    true = true,
    decide (AVal.toInt (List.getD (List.getD rs (Int.toNat i) []) 1 AVal.any) > 15) = true,
    true = true,
    true = true,
    true = true,
    true = true,
    true = true,
    decide (Int.toNat i < List.length rs) = true,
    true = true,
    areKinds [kindOf Try.prog 3] [List.getD (List.getD rs (Int.toNat i) []) 1 AVal.any] = true,
    true = true,
    true = true,
    true = true,
    decide (0 ≤ i ∧ i < (↑(List.length rs) : Int)) = true,
    true = true,
    true = true,
    decide (AVal.toInt (List.getD (List.getD rs (Int.toNat i) []) 1 AVal.any) < AVal.toInt (List.getD (List.getD rs (Int.toNat i) []) 0 AVal.any)) = false,
    true = true,
    true = true,
    true = true,
    true = true,
    decide (Int.toNat i < List.length rs) = true,
    true = true,
    areKinds [kindOf Try.prog 3] [List.getD (List.getD rs (Int.toNat i) []) 0 AVal.any] = true,
    true = true,
    true = true,
    decide (0 ≤ i ∧ i < (↑(List.length rs) : Int)) = true,
    true = true,
    true = true,
    true = true,
    decide (Int.toNat i < List.length rs) = true,
    true = true,
    areKinds [kindOf Try.prog 3] [List.getD (List.getD rs (Int.toNat i) []) 1 AVal.any] = true,
    true = true,
    true = true,
    decide (0 ≤ i ∧ i < (↑(List.length rs) : Int)) = true,
    true = true,
    true = true,
    (AVal.toInt (List.getD (List.getD rs (Int.toNat i) []) 0 AVal.any) != nx) = false,
    true = true,
    true = true,
    true = true,
    true = true,
    true = true,
    decide (Int.toNat i < List.length rs) = true,
    true = true,
    areKinds [kindOf Try.prog 3] [List.getD (List.getD rs (Int.toNat i) []) 0 AVal.any] = true,
    true = true,
    true = true,
    true = true,
    decide (0 ≤ i ∧ i < (↑(List.length rs) : Int)) = true,
    true = true,
    true = true,
    true = true,
    decide (i < (↑(List.length rs) : Int)) = true]) followed (by kernel_rfl) (allP_of (⟨rfl, rfl, rfl, rfl, rfl, rfl, rfl, rfl, rfl, rfl, h1, rfl, rfl, rfl, rfl, rfl, h2, rfl, h3, rfl, rfl, rfl, h4, rfl, rfl, h5, rfl, rfl, rfl, rfl, h2, rfl, h6, rfl, rfl, h4, rfl, rfl, rfl, h2, rfl, h3, rfl, rfl, h4, rfl, rfl, h7, rfl, rfl, rfl, rfl, rfl, h2, rfl, h6, rfl, rfl, rfl, h4, rfl, rfl, rfl, h8, trivial⟩)) (keepM 182 [6, 8, 10, 11, 12, 13]) ([0, 1]) (by kernel_rfl) (by kernel_rfl) (by kernel_rfl)

theorem owB_4 (row : List AVal) (n : List (List AVal)) (rs : List (List AVal)) (b : Bool) (i : Int) (nx : Int) (lt : Int) (s' : Int)
    (h1 : (AVal.toInt (List.getD (List.getD rs (Int.toNat i) []) 2 AVal.any) == lt) = true)
    (h2 : decide (Int.toNat i < List.length rs) = true)
    (h3 : areKinds [kindOf Try.prog 3] [List.getD (List.getD rs (Int.toNat i) []) 2 AVal.any] = true)
    (h4 : decide (0 ≤ i ∧ i < (↑(List.length rs) : Int)) = true)
    (h5 : decide (AVal.toInt (List.getD (List.getD rs (Int.toNat i) []) 1 AVal.any) > 15) = false)
    (h6 : areKinds [kindOf Try.prog 3] [List.getD (List.getD rs (Int.toNat i) []) 1 AVal.any] = true)
    (h7 : decide (AVal.toInt (List.getD (List.getD rs (Int.toNat i) []) 1 AVal.any) < AVal.toInt (List.getD (List.getD rs (Int.toNat i) []) 0 AVal.any)) = false)
    (h8 : areKinds [kindOf Try.prog 3] [List.getD (List.getD rs (Int.toNat i) []) 0 AVal.any] = true)
    (h9 : (AVal.toInt (List.getD (List.getD rs (Int.toNat i) []) 0 AVal.any) != nx) = false)
    (h10 : decide (i < (↑(List.length rs) : Int)) = true) :
    TripN Try.prog 0 (loopNo Try.f3 1) (rgO2 nx lt b rs i) ([AObj.rows true 32 [row], AObj.rows true 1 n]) (AExit.ret) (mkR 182 [(6, AVal.ptr 0 32 0 0), (8, AVal.slc false 1 1 0 16 (some 16)), (10, AVal.int IntKind.i64 nx), (11, AVal.int IntKind.i64 lt), (12, AVal.fsl b 3 rs none), (13, AVal.int IntKind.i64 i)]) ([AObj.rows true 32 [row], AObj.rows true 1 n]) :=
  evalT (st := St.mk (rgO2 nx lt b rs i) ([AObj.rows true 32 [row], AObj.rows true 1 n]) ([Dec.br true, Dec.br false, Dec.br false, Dec.br false, Dec.br true]) []) (st' := St.mk ([AVal.any, AVal.any, AVal.any, AVal.any, AVal.tt false, AVal.any, AVal.ptr 0 32 0 0, AVal.any, AVal.slc false 1 1 0 16 (some 16), AVal.any, AVal.int IntKind.i64 nx, AVal.int IntKind.i64 lt, AVal.fsl b 3 rs none, AVal.int IntKind.i64 i, AVal.any, AVal.any, AVal.any, AVal.any, AVal.any, AVal.any, AVal.any, AVal.any, AVal.any, AVal.any, AVal.any, AVal.any, AVal.any, AVal.any, AVal.any, AVal.any, AVal.any, AVal.any, AVal.any, AVal.any, AVal.any, AVal.any, AVal.any, AVal.any, AVal.any, AVal.any, AVal.any, AVal.any, AVal.any, AVal.any, AVal.any, AVal.any, AVal.any, AVal.any, AVal.any, AVal.any, AVal.any, AVal.any, AVal.any, AVal.any, AVal.any, AVal.any, AVal.any, AVal.any, AVal.any, AVal.any, AVal.any, AVal.any, AVal.any, AVal.any, AVal.any, AVal.any, AVal.any, AVal.any, AVal.any, AVal.any, AVal.any, AVal.any, AVal.any, AVal.any, AVal.any, AVal.any, AVal.any, AVal.any, AVal.any, AVal.any, AVal.any, AVal.any, AVal.int IntKind.i64 i, AVal.fsl b 3 rs none, AVal.int IntKind.i64 (↑(List.length rs) : Int), AVal.tt true, AVal.any, AVal.any, AVal.fsl b 3 rs none, AVal.int IntKind.i64 i, AVal.fptr 3 rs (Int.toNat i) 0, AVal.fptr 3 rs (Int.toNat i) 0, AVal.int IntKind.i64 (AVal.toInt (List.getD (List.getD rs (Int.toNat i) []) 0 AVal.any)), AVal.int IntKind.i64 nx, AVal.bool (AVal.toInt (List.getD (List.getD rs (Int.toNat i) []) 0 AVal.any) != nx), AVal.tt false, AVal.fsl b 3 rs none, AVal.int IntKind.i64 i, AVal.fptr 3 rs (Int.toNat i) 0, AVal.fptr 3 rs (Int.toNat i) 1, AVal.int IntKind.i64 (AVal.toInt (List.getD (List.getD rs (Int.toNat i) []) 1 AVal.any)), AVal.fsl b 3 rs none, AVal.int IntKind.i64 i, AVal.fptr 3 rs (Int.toNat i) 0, AVal.fptr 3 rs (Int.toNat i) 0, AVal.int IntKind.i64 (AVal.toInt (List.getD (List.getD rs (Int.toNat i) []) 0 AVal.any)), AVal.bool (decide (AVal.toInt (List.getD (List.getD rs (Int.toNat i) []) 1 AVal.any) < AVal.toInt (List.getD (List.getD rs (Int.toNat i) []) 0 AVal.any))), AVal.bool (decide (AVal.toInt (List.getD (List.getD rs (Int.toNat i) []) 1 AVal.any) < AVal.toInt (List.getD (List.getD rs (Int.toNat i) []) 0 AVal.any))), AVal.tt false, AVal.fsl b 3 rs none, AVal.int IntKind.i64 i, AVal.fptr 3 rs (Int.toNat i) 0, AVal.fptr 3 rs (Int.toNat i) 1, AVal.int IntKind.i64 (AVal.toInt (List.getD (List.getD rs (Int.toNat i) []) 1 AVal.any)), AVal.bool (decide (AVal.toInt (List.getD (List.getD rs (Int.toNat i) []) 1 AVal.any) > 15)), AVal.bool (decide (AVal.toInt (List.getD (List.getD rs (Int.toNat i) []) 1 AVal.any) > 15)), AVal.tt false, AVal.fsl b 3 rs none, AVal.int IntKind.i64 i, AVal.fptr 3 rs (Int.toNat i) 0, AVal.fptr 3 rs (Int.toNat i) 2, AVal.int IntKind.i64 (AVal.toInt (List.getD (List.getD rs (Int.toNat i) []) 2 AVal.any)), AVal.int IntKind.i64 lt, AVal.bool (AVal.toInt (List.getD (List.getD rs (Int.toNat i) []) 2 AVal.any) == lt), AVal.tt true, AVal.any, AVal.any, AVal.any, AVal.any, AVal.any, AVal.any, AVal.any, AVal.any, AVal.any, AVal.any, AVal.any, AVal.any, AVal.any, AVal.any, AVal.any, AVal.any, AVal.any, AVal.any, AVal.any, AVal.any, AVal.any, AVal.any, AVal.any, AVal.any, AVal.any, AVal.any, AVal.any, AVal.any, AVal.any, AVal.any, AVal.any, AVal.any, AVal.any, AVal.any, AVal.any, AVal.any, AVal.any, AVal.any, AVal.any, AVal.any, AVal.any, AVal.any, AVal.any, AVal.any, AVal.any, AVal.any, AVal.any, AVal.any, AVal.any, AVal.any, AVal.any, AVal.any, AVal.any, AVal.any, AVal.any, AVal.any, AVal.any]) ([AObj.rows true 32 [row], AObj.rows true 1 n]) ([]) [(AVal.toInt (List.getD (List.getD rs (Int.toNat i) []) 2 AVal.any) == lt) = true,
    true = true,
    true = true,
    true = true,
    true = true,
    true = true,
    decide (Int.toNat i < List.length rs) = true,
    true = true,
    areKinds [kindOf Try.prog 3] [List.getD (List.getD rs (Int.toNat i) []) 2 AVal.any] = true,
    true = true,
    true = true,
    true = true,
    decide (0 ≤ i ∧ i < (↑(List.length rs) : Int)) = true,
    true = true,
    true = true,
    decide (AVal.toInt (List.getD (List.getD rs (Int.toNat i) []) 1 AVal.any) > 15) = false,
    true = true,
    true = true,
    true = true,
    true = true,
    true = true,
    decide (Int.toNat i < List.length rs) = true,
    true = true,
    areKinds [kindOf Try.prog 3] [List.getD (List.getD rs (Int.toNat i) []) 1 AVal.any] = true,
    true = true,
    true = true,
    true = true,
    decide (0 ≤ i ∧ i < (↑(List.length rs) : Int)) = true,
    true = true,
    true = true,
    decide (AVal.toInt (List.getD (List.getD rs (Int.toNat i) []) 1 AVal.any) < AVal.toInt (List.getD (List.getD rs (Int.toNat i) []) 0 AVal.any)) = false,
    true = true,
    true = true,
    true = true,
    true = true,
    decide (Int.toNat i < List.length rs) = true,
    true = true,
    areKinds [kindOf Try.prog 3] [List.getD (List.getD rs (Int.toNat i) []) 0 AVal.any] = true,
    true = true,
    true = true,
    decide (0 ≤ i ∧ i < (↑(List.length rs) : Int)) = true,
    true = true,
    true = true,
    true = true,
    decide (Int.toNat i < List.length rs) = true,
    true = true,
    areKinds [kindOf Try.prog 3] [List.getD (List.getD rs (Int.toNat i) []) 1 AVal.any] = true,
    true = true,
    true = true,
    decide (0 ≤ i ∧ i < (↑(List.length rs) : Int)) = true,
    true = true,
    true = true,
    (AVal.toInt (List.getD (List.getD rs (Int.toNat i) []) 0 AVal.any) != nx) = false,
    true = true,
    true = true,
    true = true,
    true = true,
    true = true,
    decide (Int.toNat i < List.length rs) = true,
    true = true,
    areKinds [kindOf Try.prog 3] [List.getD (List.getD rs (Int.toNat i) []) 0 AVal.any] = true,
    true = true,
    true = true,
    true = true,
    decide (0 ≤ i ∧ i < (↑(List.length rs) : Int)) = true,
    true = true,
    true = true,
    true = true,
    decide (i < (↑(List.length rs) : Int)) = true]) followed (by kernel_rfl) (allP_of (⟨h1, rfl, rfl, rfl, rfl, rfl, h2, rfl, h3, rfl, rfl, rfl, h4, rfl, rfl, h5, rfl, rfl, rfl, rfl, rfl, h2, rfl, h6, rfl, rfl, rfl, h4, rfl, rfl, h7, rfl, rfl, rfl, rfl, h2, rfl, h8, rfl, rfl, h4, rfl, rfl, rfl, h2, rfl, h6, rfl, rfl, h4, rfl, rfl, h9, rfl, rfl, rfl, rfl, rfl, h2, rfl, h8, rfl, rfl, rfl, h4, rfl, rfl, rfl, h10, trivial⟩)) (keepM 182 [6, 8, 10, 11, 12, 13]) ([0, 1]) (by kernel_rfl) (by kernel_rfl) (by kernel_rfl)

theorem owB_5 (row : List AVal) (n : List (List AVal)) (rs : List (List AVal)) (b : Bool) (i : Int) (nx : Int) (lt : Int) (s' : Int)
    (h1 : decide (Int.toNat i < List.length rs) = true)
    (h2 : areKinds [kindOf Try.prog 3] [List.getD (List.getD rs (Int.toNat i) []) 2 AVal.any] = true)
    (h3 : decide (0 ≤ i ∧ i < (↑(List.length rs) : Int)) = true)
    (h4 : areKinds [kindOf Try.prog 3] [List.getD (List.getD rs (Int.toNat i) []) 1 AVal.any] = true)
    (h5 : TripN Try.prog 0 (Code.loop (loopNo Try.f3 2)) (mkR 182 [(6, AVal.ptr 0 32 0 0), (8, AVal.slc false 1 1 0 16 (some 16)), (12, AVal.fsl b 3 rs none), (13, AVal.int IntKind.i64 i), (14, AVal.int IntKind.i64 (AVal.toInt (List.getD (List.getD rs (Int.toNat i) []) 0 AVal.any)))]) [AObj.rows true 32 [row], AObj.rows true 1 n] (AExit.exit 4) (mkR 182 [(6, AVal.ptr 0 32 0 0), (8, AVal.slc false 1 1 0 16 (some 16)), (12, AVal.fsl b 3 rs none), (13, AVal.int IntKind.i64 i), (14, AVal.int IntKind.i64 s')]) [AObj.rows true 32 [row], AObj.rows true 1 n])
    (h6 : areKinds [kindOf Try.prog 3] [List.getD (List.getD rs (Int.toNat i) []) 0 AVal.any] = true)
    (h7 : (AVal.toInt (List.getD (List.getD rs (Int.toNat i) []) 2 AVal.any) == lt) = false)
    (h8 : decide (AVal.toInt (List.getD (List.getD rs (Int.toNat i) []) 1 AVal.any) > 15) = false)
    (h9 : decide (AVal.toInt (List.getD (List.getD rs (Int.toNat i) []) 1 AVal.any) < AVal.toInt (List.getD (List.getD rs (Int.toNat i) []) 0 AVal.any)) = false)
    (h10 : (AVal.toInt (List.getD (List.getD rs (Int.toNat i) []) 0 AVal.any) != nx) = false)
    (h11 : decide (i < (↑(List.length rs) : Int)) = true) :
    TripN Try.prog 0 (loopNo Try.f3 1) (rgO2 nx lt b rs i) ([AObj.rows true 32 [row], AObj.rows true 1 n]) (AExit.normal) (mkR 182 [(6, AVal.ptr 0 32 0 0), (8, AVal.slc false 1 1 0 16 (some 16)), (10, AVal.int IntKind.i64 (IntKind.wrap IntKind.i64 (AVal.toInt (List.getD (List.getD rs (Int.toNat i) []) 1 AVal.any) + 1))), (11, AVal.int IntKind.i64 (AVal.toInt (List.getD (List.getD rs (Int.toNat i) []) 2 AVal.any))), (12, AVal.fsl b 3 rs none), (13, AVal.int IntKind.i64 (IntKind.wrap IntKind.i64 (i + 1)))]) ([AObj.rows true 32 [row], AObj.rows true 1 n]) :=
  evalT (st := St.mk (rgO2 nx lt b rs i) ([AObj.rows true 32 [row], AObj.rows true 1 n]) ([Dec.br true, Dec.br false, Dec.br false, Dec.br false, Dec.br false, Dec.loop (AExit.exit 4) (rgO3 b rs i s') [AObj.rows true 32 [row], AObj.rows true 1 n]]) []) (st' := St.mk ([AVal.any, AVal.any, AVal.any, AVal.any, AVal.any, AVal.any, AVal.ptr 0 32 0 0, AVal.any, AVal.slc false 1 1 0 16 (some 16), AVal.any, AVal.int IntKind.i64 (IntKind.wrap IntKind.i64 (AVal.toInt (List.getD (List.getD rs (Int.toNat i) []) 1 AVal.any) + 1)), AVal.int IntKind.i64 (AVal.toInt (List.getD (List.getD rs (Int.toNat i) []) 2 AVal.any)), AVal.fsl b 3 rs none, AVal.int IntKind.i64 (IntKind.wrap IntKind.i64 (i + 1)), AVal.int IntKind.i64 s', AVal.any, AVal.any, AVal.any, AVal.any, AVal.any, AVal.any, AVal.any, AVal.any, AVal.any, AVal.any, AVal.any, AVal.any, AVal.any, AVal.any, AVal.any, AVal.any, AVal.any, AVal.any, AVal.any, AVal.any, AVal.any, AVal.any, AVal.any, AVal.any, AVal.any, AVal.any, AVal.any, AVal.any, AVal.any, AVal.any, AVal.any, AVal.any, AVal.any, AVal.any, AVal.any, AVal.any, AVal.any, AVal.any, AVal.any, AVal.any, AVal.any, AVal.any, AVal.any, AVal.any, AVal.any, AVal.any, AVal.any, AVal.any, AVal.any, AVal.any, AVal.any, AVal.any, AVal.any, AVal.any, AVal.any, AVal.any, AVal.any, AVal.any, AVal.any, AVal.any, AVal.any, AVal.any, AVal.any, AVal.any, AVal.any, AVal.any, AVal.any, AVal.any, AVal.any, AVal.any, AVal.any, AVal.int IntKind.i64 i, AVal.int IntKind.i64 (IntKind.wrap IntKind.i64 (i + 1)), AVal.any, AVal.any, AVal.any, AVal.any, AVal.any, AVal.any, AVal.any, AVal.any, AVal.any, AVal.any, AVal.any, AVal.any, AVal.any, AVal.any, AVal.any, AVal.any, AVal.any, AVal.any, AVal.any, AVal.any, AVal.any, AVal.any, AVal.any, AVal.any, AVal.any, AVal.any, AVal.any, AVal.any, AVal.any, AVal.any, AVal.any, AVal.any, AVal.any, AVal.any, AVal.any, AVal.any, AVal.any, AVal.any, AVal.any, AVal.any, AVal.any, AVal.any, AVal.any, AVal.any, AVal.any, AVal.any, AVal.any, AVal.any, AVal.any, AVal.any, AVal.any, AVal.any, AVal.any, AVal.any, AVal.any, AVal.any, AVal.any, AVal.any, AVal.any, AVal.any, AVal.any, AVal.any, AVal.any, AVal.any, AVal.any, AVal.any, AVal.any, AVal.any, AVal.any, AVal.any, AVal.any, AVal.any, AVal.any, AVal.any, AVal.any, AVal.any, AVal.any, AVal.any, AVal.fsl b 3 rs none, AVal.int IntKind.i64 i, AVal.fptr 3 rs (Int.toNat i) 0, AVal.fptr 3 rs (Int.toNat i) 1, AVal.int IntKind.i64 (AVal.toInt (List.getD (List.getD rs (Int.toNat i) []) 1 AVal.any)), AVal.int IntKind.i64 (IntKind.wrap IntKind.i64 (AVal.toInt (List.getD (List.getD rs (Int.toNat i) []) 1 AVal.any) + 1)), AVal.fsl b 3 rs none, AVal.int IntKind.i64 i, AVal.fptr 3 rs (Int.toNat i) 0, AVal.fptr 3 rs (Int.toNat i) 2, AVal.int IntKind.i64 (AVal.toInt (List.getD (List.getD rs (Int.toNat i) []) 2 AVal.any)), AVal.any, AVal.any, AVal.any, AVal.any, AVal.any]) ([AObj.rows true 32 [row], AObj.rows true 1 n]) ([]) [decide (Int.toNat i < List.length rs) = true,
    true = true,
    areKinds [kindOf Try.prog 3] [List.getD (List.getD rs (Int.toNat i) []) 2 AVal.any] = true,
    decide (0 ≤ i ∧ i < (↑(List.length rs) : Int)) = true,
    decide (Int.toNat i < List.length rs) = true,
    true = true,
    areKinds [kindOf Try.prog 3] [List.getD (List.getD rs (Int.toNat i) []) 1 AVal.any] = true,
    decide (0 ≤ i ∧ i < (↑(List.length rs) : Int)) = true,
    Owed.loop (owed Try.prog 0) (loopNo Try.f3 2) (mkR 182 [(6, AVal.ptr 0 32 0 0), (8, AVal.slc false 1 1 0 16 (some 16)), (10, AVal.int IntKind.i64 nx), (11, AVal.int IntKind.i64 lt), (12, AVal.fsl b 3 rs none), (13, AVal.int IntKind.i64 i), (14, AVal.int IntKind.i64 (AVal.toInt (List.getD (List.getD rs (Int.toNat i) []) 0 AVal.any))), (82, AVal.int IntKind.i64 i), (83, AVal.fsl b 3 rs none), (84, AVal.int IntKind.i64 (↑(List.length rs) : Int)), (85, AVal.tt true), (88, AVal.fsl b 3 rs none), (89, AVal.int IntKind.i64 i), (90, AVal.fptr 3 rs (Int.toNat i) 0), (91, AVal.fptr 3 rs (Int.toNat i) 0), (92, AVal.int IntKind.i64 (AVal.toInt (List.getD (List.getD rs (Int.toNat i) []) 0 AVal.any))), (93, AVal.int IntKind.i64 nx), (94, AVal.bool (AVal.toInt (List.getD (List.getD rs (Int.toNat i) []) 0 AVal.any) != nx)), (95, AVal.tt false), (96, AVal.fsl b 3 rs none), (97, AVal.int IntKind.i64 i), (98, AVal.fptr 3 rs (Int.toNat i) 0), (99, AVal.fptr 3 rs (Int.toNat i) 1), (100, AVal.int IntKind.i64 (AVal.toInt (List.getD (List.getD rs (Int.toNat i) []) 1 AVal.any))), (101, AVal.fsl b 3 rs none), (102, AVal.int IntKind.i64 i), (103, AVal.fptr 3 rs (Int.toNat i) 0), (104, AVal.fptr 3 rs (Int.toNat i) 0), (105, AVal.int IntKind.i64 (AVal.toInt (List.getD (List.getD rs (Int.toNat i) []) 0 AVal.any))), (106, AVal.bool (decide (AVal.toInt (List.getD (List.getD rs (Int.toNat i) []) 1 AVal.any) < AVal.toInt (List.getD (List.getD rs (Int.toNat i) []) 0 AVal.any)))), (107, AVal.bool (decide (AVal.toInt (List.getD (List.getD rs (Int.toNat i) []) 1 AVal.any) < AVal.toInt (List.getD (List.getD rs (Int.toNat i) []) 0 AVal.any)))), (108, AVal.tt false), (109, AVal.fsl b 3 rs none), (110, AVal.int IntKind.i64 i), (111, AVal.fptr 3 rs (Int.toNat i) 0), (112, AVal.fptr 3 rs (Int.toNat i) 1), (113, AVal.int IntKind.i64 (AVal.toInt (List.getD (List.getD rs (Int.toNat i) []) 1 AVal.any))), (114, AVal.bool (decide (AVal.toInt (List.getD (List.getD rs (Int.toNat i) []) 1 AVal.any) > 15))), (115, AVal.bool (decide (AVal.toInt (List.getD (List.getD rs (Int.toNat i) []) 1 AVal.any) > 15))), (116, AVal.tt false), (117, AVal.fsl b 3 rs none), (118, AVal.int IntKind.i64 i), (119, AVal.fptr 3 rs (Int.toNat i) 0), (120, AVal.fptr 3 rs (Int.toNat i) 2), (121, AVal.int IntKind.i64 (AVal.toInt (List.getD (List.getD rs (Int.toNat i) []) 2 AVal.any))), (122, AVal.int IntKind.i64 lt), (123, AVal.bool (AVal.toInt (List.getD (List.getD rs (Int.toNat i) []) 2 AVal.any) == lt)), (124, AVal.tt false), (125, AVal.fsl b 3 rs none), (126, AVal.int IntKind.i64 i), (127, AVal.fptr 3 rs (Int.toNat i) 0), (128, AVal.fptr 3 rs (Int.toNat i) 0), (129, AVal.int IntKind.i64 (AVal.toInt (List.getD (List.getD rs (Int.toNat i) []) 0 AVal.any)))]) [AObj.rows true 32 [row], AObj.rows true 1 n] (AExit.exit 4) (mkR 182 [(6, AVal.ptr 0 32 0 0), (8, AVal.slc false 1 1 0 16 (some 16)), (12, AVal.fsl b 3 rs none), (13, AVal.int IntKind.i64 i), (14, AVal.int IntKind.i64 s')]) [AObj.rows true 32 [row], AObj.rows true 1 n],
    decide (Int.toNat i < List.length rs) = true,
    true = true,
    areKinds [kindOf Try.prog 3] [List.getD (List.getD rs (Int.toNat i) []) 0 AVal.any] = true,
    decide (0 ≤ i ∧ i < (↑(List.length rs) : Int)) = true,
    (AVal.toInt (List.getD (List.getD rs (Int.toNat i) []) 2 AVal.any) == lt) = false,
    true = true,
    true = true,
    true = true,
    true = true,
    true = true,
    decide (Int.toNat i < List.length rs) = true,
    true = true,
    areKinds [kindOf Try.prog 3] [List.getD (List.getD rs (Int.toNat i) []) 2 AVal.any] = true,
    true = true,
    true = true,
    true = true,
    decide (0 ≤ i ∧ i < (↑(List.length rs) : Int)) = true,
    true = true,
    true = true,
    decide (AVal.toInt (List.getD (List.getD rs (Int.toNat i) []) 1 AVal.any) > 15) = false,
    true = true,
    true = true,
    true = true,
    true = true,
    true = true,
    decide (Int.toNat i < List.length rs) = true,
    true = true,
    areKinds [kindOf Try.prog 3] [List.getD (List.getD rs (Int.toNat i) []) 1 AVal.any] = true,
    true = true,
    true = true,
    true = true,
    decide (0 ≤ i ∧ i < (↑(List.length rs) : Int)) = true,
    true = true,
    true = true,
    decide (AVal.toInt (List.getD (List.getD rs (Int.toNat i) []) 1 AVal.any) < AVal.toInt (List.getD (List.getD rs (Int.toNat i) []) 0 AVal.any)) = false,
    true = true,
    true = true,
    true = true,
    true = true,
    decide (Int.toNat i < List.length rs) = true,
    true = true,
    areKinds [kindOf Try.prog 3] [List.getD (List.getD rs (Int.toNat i) []) 0 AVal.any] = true,
    true = true,
    true = true,
    decide (0 ≤ i ∧ i < (↑(List.length rs) : Int)) = true,
    true = true,
    true = true,
    true = true,
    decide (Int.toNat i < List.length rs) = true,
    true = true,
    areKinds [kindOf Try.prog 3] [List.getD (List.getD rs (Int.toNat i) []) 1 AVal.any] = true,
    true = true,
    true = true,
    decide (0 ≤ i ∧ i < (↑(List.length rs) : Int)) = true,
    true = true,
    true = true,
    (AVal.toInt (List.getD (List.getD rs (Int.toNat i) []) 0 AVal.any) != nx) = false,
    true = true,
    true = true,
    true = true,
    true = true,
    true = true,
    decide (Int.toNat i < List.length rs) = true,
    true = true,
    areKinds [kindOf Try.prog 3] [List.getD (List.getD rs (Int.toNat i) []) 0 AVal.any] = true,
    true = true,
    true = true,
    true = true,
    decide (0 ≤ i ∧ i < (↑(List.length rs) : Int)) = true,
    true = true,
    true = true,
    true = true,
    decide (i < (↑(List.length rs) : Int)) = true]) followed (by kernel_rfl) (allP_of (⟨h1, rfl, h2, h3, h1, rfl, h4, h3, (h5).keep (keepM 182 [6, 8, 12, 13, 14]) (by kernel_rfl), h1, rfl, h6, h3, h7, rfl, rfl, rfl, rfl, rfl, h1, rfl, h2, rfl, rfl, rfl, h3, rfl, rfl, h8, rfl, rfl, rfl, rfl, rfl, h1, rfl, h4, rfl, rfl, rfl, h3, rfl, rfl, h9, rfl, rfl, rfl, rfl, h1, rfl, h6, rfl, rfl, h3, rfl, rfl, rfl, h1, rfl, h4, rfl, rfl, h3, rfl, rfl, h10, rfl, rfl, rfl, rfl, rfl, h1, rfl, h6, rfl, rfl, rfl, h3, rfl, rfl, rfl, h11, trivial⟩)) (keepM 182 [6, 8, 10, 11, 12, 13]) ([0, 1]) (by kernel_rfl) (by kernel_rfl) (by kernel_rfl)

theorem owB_6 (row : List AVal) (n : List (List AVal)) (rs : List (List AVal)) (b : Bool) (i : Int) (nx : Int) (lt : Int) (s' : Int)
    (h1 : decide (i < (↑(List.length rs) : Int)) = false) :
    TripN Try.prog 0 (loopNo Try.f3 1) (rgO2 nx lt b rs i) ([AObj.rows true 32 [row], AObj.rows true 1 n]) (AExit.exit 2) (mkR 182 [(6, AVal.ptr 0 32 0 0), (8, AVal.slc false 1 1 0 16 (some 16)), (10, AVal.int IntKind.i64 nx), (11, AVal.int IntKind.i64 lt), (12, AVal.fsl b 3 rs none), (13, AVal.int IntKind.i64 i)]) ([AObj.rows true 32 [row], AObj.rows true 1 n]) :=
  evalT (st := St.mk (rgO2 nx lt b rs i) ([AObj.rows true 32 [row], AObj.rows true 1 n]) ([Dec.br false]) []) (st' := St.mk ([AVal.any, AVal.any, AVal.any, AVal.any, AVal.any, AVal.any, AVal.ptr 0 32 0 0, AVal.any, AVal.slc false 1 1 0 16 (some 16), AVal.any, AVal.int IntKind.i64 nx, AVal.int IntKind.i64 lt, AVal.fsl b 3 rs none, AVal.int IntKind.i64 i, AVal.any, AVal.any, AVal.any, AVal.any, AVal.any, AVal.any, AVal.any, AVal.any, AVal.any, AVal.any, AVal.any, AVal.any, AVal.any, AVal.any, AVal.any, AVal.any, AVal.any, AVal.any, AVal.any, AVal.any, AVal.any, AVal.any, AVal.any, AVal.any, AVal.any, AVal.any, AVal.any, AVal.any, AVal.any, AVal.any, AVal.any, AVal.any, AVal.any, AVal.any, AVal.any, AVal.any, AVal.any, AVal.any, AVal.any, AVal.any, AVal.any, AVal.any, AVal.any, AVal.any, AVal.any, AVal.any, AVal.any, AVal.any, AVal.any, AVal.any, AVal.any, AVal.any, AVal.any, AVal.any, AVal.any, AVal.any, AVal.any, AVal.any, AVal.any, AVal.any, AVal.any, AVal.any, AVal.any, AVal.any, AVal.any, AVal.any, AVal.any, AVal.any, AVal.int IntKind.i64 i, AVal.fsl b 3 rs none, AVal.int IntKind.i64 (↑(List.length rs) : Int), AVal.tt false, AVal.any, AVal.any, AVal.any, AVal.any, AVal.any, AVal.any, AVal.any, AVal.any, AVal.any, AVal.any, AVal.any, AVal.any, AVal.any, AVal.any, AVal.any, AVal.any, AVal.any, AVal.any, AVal.any, AVal.any, AVal.any, AVal.any, AVal.any, AVal.any, AVal.any, AVal.any, AVal.any, AVal.any, AVal.any, AVal.any, AVal.any, AVal.any, AVal.any, AVal.any, AVal.any, AVal.any, AVal.any, AVal.any, AVal.any, AVal.any, AVal.any, AVal.any, AVal.any, AVal.any, AVal.any, AVal.any, AVal.any, AVal.any, AVal.any, AVal.any, AVal.any, AVal.any, AVal.any, AVal.any, AVal.any, AVal.any, AVal.any, AVal.any, AVal.any, AVal.any, AVal.any, AVal.any, AVal.any, AVal.any, AVal.any, AVal.any, AVal.any, AVal.any, AVal.any, AVal.any, AVal.any, AVal.any, AVal.any, AVal.any, AVal.any, AVal.any, AVal.any, AVal.any, AVal.any, AVal.any, AVal.any, AVal.any, AVal.any, AVal.any, AVal.any, AVal.any, AVal.any, AVal.any, AVal.any, AVal.any, AVal.any, AVal.any, AVal.any, AVal.any, AVal.any, AVal.any]) ([AObj.rows true 32 [row], AObj.rows true 1 n]) ([]) [decide (i < (↑(List.length rs) : Int)) = false]) followed (by kernel_rfl) (allP_of (⟨h1, trivial⟩)) (keepM 182 [6, 8, 10, 11, 12, 13]) ([0, 1]) (by kernel_rfl) (by kernel_rfl) (by kernel_rfl)


theorem owned_1 (m : Int) (bg : Bool) (gs : List (List AVal)) (row0 : List AVal) (row : List AVal) (n : List (List AVal)) (rs : List (List AVal)) (b : Bool) (i : Int) (j : Int) (nx : Int) (lt : Int)
    (h1 : FOk Try.prog 13 [] [] (AVal.bool true) [])
    (h2 : (nx == 16) = true)
    (h3 : TripN Try.prog 0 (Code.loop (loopNo Try.f3 1)) (mkR 182 [(6, AVal.ptr 0 32 0 0), (8, AVal.slc false 1 1 0 16 (some 16)), (10, AVal.int IntKind.i64 0), (11, AVal.int IntKind.i64 0), (12, AVal.fsl b 3 rs none), (13, AVal.int IntKind.i64 0)]) [AObj.rows true 32 [row], AObj.rows true 1 n] (AExit.exit 2) (mkR 182 [(6, AVal.ptr 0 32 0 0), (8, AVal.slc false 1 1 0 16 (some 16)), (10, AVal.int IntKind.i64 nx), (11, AVal.int IntKind.i64 lt), (12, AVal.fsl b 3 rs none), (13, AVal.int IntKind.i64 j)]) [AObj.rows true 32 [row], AObj.rows true 1 n])
    (h4 : FOk Try.prog 11 [AVal.ptr 0 32 0 0] [AObj.rows true 32 [row]] (AVal.fsl b 3 rs none) [AObj.rows true 32 [row]])
    (h5 : TripN Try.prog 0 (Code.loop (loopNo Try.f3 0)) (mkR 182 [(1, AVal.fsl bg 2 gs none), (6, AVal.ptr 0 32 0 0), (8, AVal.slc false 1 1 0 16 (some 16)), (9, AVal.int IntKind.i64 0)]) [AObj.rows true 32 [row0], AObj.rows true 1 [[AVal.int IntKind.i64 0], [AVal.int IntKind.i64 0], [AVal.int IntKind.i64 0], [AVal.int IntKind.i64 0], [AVal.int IntKind.i64 0], [AVal.int IntKind.i64 0], [AVal.int IntKind.i64 0], [AVal.int IntKind.i64 0], [AVal.int IntKind.i64 0], [AVal.int IntKind.i64 0], [AVal.int IntKind.i64 0], [AVal.int IntKind.i64 0], [AVal.int IntKind.i64 0], [AVal.int IntKind.i64 0], [AVal.int IntKind.i64 0], [AVal.int IntKind.i64 0]]] (AExit.exit 0) (mkR 182 [(1, AVal.fsl bg 2 gs none), (6, AVal.ptr 0 32 0 0), (8, AVal.slc false 1 1 0 16 (some 16)), (9, AVal.int IntKind.i64 i)]) [AObj.rows true 32 [row], AObj.rows true 1 n])
    (h6 : FOk Try.prog 9 [AVal.int IntKind.i64 (IntKind.wrap IntKind.i64 (1 + bits BinOp.and IntKind.i64 m 7))] [] (AVal.tuple [AVal.ptr 0 32 0 0, AVal.int IntKind.i64 0]) [AObj.rows true 32 [row0]]) :
    FOk Try.prog 3 ([AVal.int IntKind.i64 m, AVal.fsl bg 2 gs none]) ([]) (AVal.bool true) ([]) :=
  (evalF_ok followed Try.func3 (by kernel_rfl) (show evalF Try.prog Try.f3 ([AVal.int IntKind.i64 m, AVal.fsl bg 2 gs none]) ([]) ([Dec.use [] [AVal.int IntKind.i64 (IntKind.wrap IntKind.i64 (1 + bits BinOp.and IntKind.i64 m 7))] [] (AVal.tuple [AVal.ptr 0 32 0 0, AVal.int IntKind.i64 0]) [AObj.rows true 32 [row0]], Dec.br false, Dec.br false, Dec.loop (AExit.exit 0) (rgO bg gs i) [AObj.rows true 32 [row], AObj.rows true 1 n], Dec.use [0] [AVal.ptr 0 32 0 0] [AObj.rows true 32 [row]] (AVal.fsl b 3 rs none) [AObj.rows true 32 [row]], Dec.loop (AExit.exit 2) (rgO2 nx lt b rs j) [AObj.rows true 32 [row], AObj.rows true 1 n], Dec.br true, Dec.use [] [] [] (AVal.bool true) []]) = .ok (FRes.mk (AVal.bool true) ([AObj.rows true 32 [row], AObj.rows true 1 n]) [Owed.use (owed Try.prog 0) 13 [] [] [AObj.rows true 32 [row], AObj.rows true 1 n] [] [] (AVal.bool true) [],
    (nx == 16) = true,
    Owed.loop (owed Try.prog 0) (loopNo Try.f3 1) (mkR 182 [(1, AVal.fsl bg 2 gs none), (6, AVal.ptr 0 32 0 0), (8, AVal.slc false 1 1 0 16 (some 16)), (9, AVal.int IntKind.i64 i), (10, AVal.int IntKind.i64 0), (11, AVal.int IntKind.i64 0), (12, AVal.fsl b 3 rs none), (13, AVal.int IntKind.i64 0), (80, AVal.ptr 0 32 0 0), (81, AVal.fsl b 3 rs none)]) [AObj.rows true 32 [row], AObj.rows true 1 n] (AExit.exit 2) (mkR 182 [(6, AVal.ptr 0 32 0 0), (8, AVal.slc false 1 1 0 16 (some 16)), (10, AVal.int IntKind.i64 nx), (11, AVal.int IntKind.i64 lt), (12, AVal.fsl b 3 rs none), (13, AVal.int IntKind.i64 j)]) [AObj.rows true 32 [row], AObj.rows true 1 n],
    Owed.use (owed Try.prog 0) 11 [0] [AVal.ptr 0 32 0 0] [AObj.rows true 32 [row], AObj.rows true 1 n] [AVal.ptr 0 32 0 0] [AObj.rows true 32 [row]] (AVal.fsl b 3 rs none) [AObj.rows true 32 [row]],
    Owed.loop (owed Try.prog 0) (loopNo Try.f3 0) (mkR 182 [(0, AVal.int IntKind.i64 m), (1, AVal.fsl bg 2 gs none), (2, AVal.tuple []), (3, AVal.tuple []), (4, AVal.tt false), (5, AVal.int IntKind.i64 (IntKind.wrap IntKind.i64 (1 + bits BinOp.and IntKind.i64 m 7))), (6, AVal.ptr 0 32 0 0), (7, AVal.int IntKind.i64 0), (8, AVal.slc false 1 1 0 16 (some 16)), (9, AVal.int IntKind.i64 0), (10, AVal.tuple []), (11, AVal.tuple []), (12, AVal.tuple []), (13, AVal.tuple []), (14, AVal.tuple []), (15, AVal.tuple []), (16, AVal.tuple []), (17, AVal.tuple []), (18, AVal.int IntKind.i64 m), (19, AVal.int IntKind.i64 (bits BinOp.and IntKind.i64 m 7)), (20, AVal.int IntKind.i64 (IntKind.wrap IntKind.i64 (1 + bits BinOp.and IntKind.i64 m 7))), (21, AVal.tuple [AVal.ptr 0 32 0 0, AVal.int IntKind.i64 0]), (22, AVal.int IntKind.i64 (IntKind.wrap IntKind.i64 (1 + bits BinOp.and IntKind.i64 m 7))), (23, AVal.tuple [AVal.ptr 0 32 0 0, AVal.int IntKind.i64 0]), (24, AVal.ptr 0 32 0 0), (25, AVal.int IntKind.i64 0), (26, AVal.int IntKind.i64 0), (27, AVal.bool false), (28, AVal.tt false), (29, AVal.ptr 0 32 0 0), (30, AVal.bool false), (31, AVal.tt false), (32, AVal.slc false 1 1 0 16 (some 16)), (33, AVal.tuple []), (34, AVal.tuple []), (35, AVal.tuple []), (36, AVal.tuple []), (37, AVal.tuple []), (38, AVal.tuple []), (39, AVal.tuple []), (40, AVal.tuple []), (41, AVal.tuple []), (42, AVal.tuple []), (43, AVal.tuple []), (44, AVal.tuple []), (45, AVal.tuple []), (46, AVal.tuple []), (47, AVal.tuple []), (48, AVal.tuple []), (49, AVal.tuple []), (50, AVal.tuple []), (51, AVal.tuple []), (52, AVal.tuple []), (53, AVal.tuple []), (54, AVal.tuple []), (55, AVal.tuple []), (56, AVal.tuple []), (57, AVal.tuple []), (58, AVal.tuple []), (59, AVal.tuple []), (60, AVal.tuple []), (61, AVal.tuple []), (62, AVal.tuple []), (63, AVal.tuple []), (64, AVal.tuple []), (65, AVal.tuple []), (66, AVal.tuple []), (67, AVal.tuple []), (68, AVal.tuple []), (69, AVal.tuple []), (70, AVal.tuple []), (71, AVal.tuple []), (72, AVal.tuple []), (73, AVal.tuple []), (74, AVal.tuple []), (75, AVal.tuple []), (76, AVal.tuple []), (77, AVal.tuple []), (78, AVal.tuple []), (79, AVal.tuple []), (80, AVal.tuple []), (81, AVal.tuple []), (82, AVal.tuple []), (83, AVal.tuple []), (84, AVal.tuple []), (85, AVal.tuple []), (86, AVal.tuple []), (87, AVal.tuple []), (88, AVal.tuple []), (89, AVal.tuple []), (90, AVal.tuple []), (91, AVal.tuple []), (92, AVal.tuple []), (93, AVal.tuple []), (94, AVal.tuple []), (95, AVal.tuple []), (96, AVal.tuple []), (97, AVal.tuple []), (98, AVal.tuple []), (99, AVal.tuple []), (100, AVal.tuple []), (101, AVal.tuple []), (102, AVal.tuple []), (103, AVal.tuple []), (104, AVal.tuple []), (105, AVal.tuple []), (106, AVal.tuple []), (107, AVal.tuple []), (108, AVal.tuple []), (109, AVal.tuple []), (110, AVal.tuple []), (111, AVal.tuple []), (112, AVal.tuple []), (113, AVal.tuple []), (114, AVal.tuple []), (115, AVal.tuple []), (116, AVal.tuple []), (117, AVal.tuple []), (118, AVal.tuple []), (119, AVal.tuple []), (120, AVal.tuple []), (121, AVal.tuple []), (122, AVal.tuple []), (123, AVal.tuple []), (124, AVal.tuple []), (125, AVal.tuple []), (126, AVal.tuple []), (127, AVal.tuple []), (128, AVal.tuple []), (129, AVal.tuple []), (130, AVal.tuple []), (131, AVal.tuple []), (132, AVal.tuple []), (133, AVal.tuple []), (134, AVal.tuple []), (135, AVal.tuple []), (136, AVal.tuple []), (137, AVal.tuple []), (138, AVal.tuple []), (139, AVal.tuple []), (140, AVal.tuple []), (141, AVal.tuple []), (142, AVal.tuple []), (143, AVal.tuple []), (144, AVal.tuple []), (145, AVal.tuple []), (146, AVal.tuple []), (147, AVal.tuple []), (148, AVal.tuple []), (149, AVal.tuple []), (150, AVal.tuple []), (151, AVal.tuple []), (152, AVal.tuple []), (153, AVal.tuple []), (154, AVal.tuple []), (155, AVal.tuple []), (156, AVal.tuple []), (157, AVal.tuple []), (158, AVal.tuple []), (159, AVal.tuple []), (160, AVal.tuple []), (161, AVal.tuple []), (162, AVal.tuple []), (163, AVal.tuple []), (164, AVal.tuple []), (165, AVal.tuple []), (166, AVal.tuple []), (167, AVal.tuple []), (168, AVal.tuple []), (169, AVal.tuple []), (170, AVal.tuple []), (171, AVal.tuple []), (172, AVal.tuple []), (173, AVal.tuple []), (174, AVal.tuple []), (175, AVal.tuple []), (176, AVal.tuple []), (177, AVal.tuple []), (178, AVal.tuple []), (179, AVal.tuple []), (180, AVal.tuple []), (181, AVal.tuple [])]) [AObj.rows true 32 [row0], AObj.rows true 1 [[AVal.int IntKind.i64 0], [AVal.int IntKind.i64 0], [AVal.int IntKind.i64 0], [AVal.int IntKind.i64 0], [AVal.int IntKind.i64 0], [AVal.int IntKind.i64 0], [AVal.int IntKind.i64 0], [AVal.int IntKind.i64 0], [AVal.int IntKind.i64 0], [AVal.int IntKind.i64 0], [AVal.int IntKind.i64 0], [AVal.int IntKind.i64 0], [AVal.int IntKind.i64 0], [AVal.int IntKind.i64 0], [AVal.int IntKind.i64 0], [AVal.int IntKind.i64 0]]] (AExit.exit 0) (mkR 182 [(1, AVal.fsl bg 2 gs none), (6, AVal.ptr 0 32 0 0), (8, AVal.slc false 1 1 0 16 (some 16)), (9, AVal.int IntKind.i64 i)]) [AObj.rows true 32 [row], AObj.rows true 1 n],
    true = true,
    false = false,
    false = false,
    Owed.use (owed Try.prog 0) 9 [] [AVal.int IntKind.i64 (IntKind.wrap IntKind.i64 (1 + bits BinOp.and IntKind.i64 m 7))] [] [AVal.int IntKind.i64 (IntKind.wrap IntKind.i64 (1 + bits BinOp.and IntKind.i64 m 7))] [] (AVal.tuple [AVal.ptr 0 32 0 0, AVal.int IntKind.i64 0]) [AObj.rows true 32 [row0]]]) by kernel_rfl) (allP_of (⟨⟨h1, rfl, rfl, rfl⟩, h2, (h3).keep (keepM 182 [6, 8, 10, 11, 12, 13]) (by kernel_rfl), ⟨h4, rfl, rfl, rfl⟩, (h5).keep (keepM 182 [1, 6, 8, 9]) (by kernel_rfl), rfl, rfl, rfl, ⟨h6, rfl, rfl, rfl⟩, trivial⟩))).move ([]) (by kernel_rfl) (by kernel_rfl) (by kernel_rfl)

theorem owned_2 (m : Int) (bg : Bool) (gs : List (List AVal)) (row0 : List AVal) (row : List AVal) (n : List (List AVal)) (rs : List (List AVal)) (b : Bool) (i : Int) (j : Int) (nx : Int) (lt : Int)
    (h1 : (nx == 16) = false)
    (h2 : TripN Try.prog 0 (Code.loop (loopNo Try.f3 1)) (mkR 182 [(6, AVal.ptr 0 32 0 0), (8, AVal.slc false 1 1 0 16 (some 16)), (10, AVal.int IntKind.i64 0), (11, AVal.int IntKind.i64 0), (12, AVal.fsl b 3 rs none), (13, AVal.int IntKind.i64 0)]) [AObj.rows true 32 [row], AObj.rows true 1 n] (AExit.exit 2) (mkR 182 [(6, AVal.ptr 0 32 0 0), (8, AVal.slc false 1 1 0 16 (some 16)), (10, AVal.int IntKind.i64 nx), (11, AVal.int IntKind.i64 lt), (12, AVal.fsl b 3 rs none), (13, AVal.int IntKind.i64 j)]) [AObj.rows true 32 [row], AObj.rows true 1 n])
    (h3 : FOk Try.prog 11 [AVal.ptr 0 32 0 0] [AObj.rows true 32 [row]] (AVal.fsl b 3 rs none) [AObj.rows true 32 [row]])
    (h4 : TripN Try.prog 0 (Code.loop (loopNo Try.f3 0)) (mkR 182 [(1, AVal.fsl bg 2 gs none), (6, AVal.ptr 0 32 0 0), (8, AVal.slc false 1 1 0 16 (some 16)), (9, AVal.int IntKind.i64 0)]) [AObj.rows true 32 [row0], AObj.rows true 1 [[AVal.int IntKind.i64 0], [AVal.int IntKind.i64 0], [AVal.int IntKind.i64 0], [AVal.int IntKind.i64 0], [AVal.int IntKind.i64 0], [AVal.int IntKind.i64 0], [AVal.int IntKind.i64 0], [AVal.int IntKind.i64 0], [AVal.int IntKind.i64 0], [AVal.int IntKind.i64 0], [AVal.int IntKind.i64 0], [AVal.int IntKind.i64 0], [AVal.int IntKind.i64 0], [AVal.int IntKind.i64 0], [AVal.int IntKind.i64 0], [AVal.int IntKind.i64 0]]] (AExit.exit 0) (mkR 182 [(1, AVal.fsl bg 2 gs none), (6, AVal.ptr 0 32 0 0), (8, AVal.slc false 1 1 0 16 (some 16)), (9, AVal.int IntKind.i64 i)]) [AObj.rows true 32 [row], AObj.rows true 1 n])
    (h5 : FOk Try.prog 9 [AVal.int IntKind.i64 (IntKind.wrap IntKind.i64 (1 + bits BinOp.and IntKind.i64 m 7))] [] (AVal.tuple [AVal.ptr 0 32 0 0, AVal.int IntKind.i64 0]) [AObj.rows true 32 [row0]]) :
    FOk Try.prog 3 ([AVal.int IntKind.i64 m, AVal.fsl bg 2 gs none]) ([]) (AVal.bool false) ([]) :=
  (evalF_ok followed Try.func3 (by kernel_rfl) (show evalF Try.prog Try.f3 ([AVal.int IntKind.i64 m, AVal.fsl bg 2 gs none]) ([]) ([Dec.use [] [AVal.int IntKind.i64 (IntKind.wrap IntKind.i64 (1 + bits BinOp.and IntKind.i64 m 7))] [] (AVal.tuple [AVal.ptr 0 32 0 0, AVal.int IntKind.i64 0]) [AObj.rows true 32 [row0]], Dec.br false, Dec.br false, Dec.loop (AExit.exit 0) (rgO bg gs i) [AObj.rows true 32 [row], AObj.rows true 1 n], Dec.use [0] [AVal.ptr 0 32 0 0] [AObj.rows true 32 [row]] (AVal.fsl b 3 rs none) [AObj.rows true 32 [row]], Dec.loop (AExit.exit 2) (rgO2 nx lt b rs j) [AObj.rows true 32 [row], AObj.rows true 1 n], Dec.br false]) = .ok (FRes.mk (AVal.bool false) ([AObj.rows true 32 [row], AObj.rows true 1 n]) [(nx == 16) = false,
    Owed.loop (owed Try.prog 0) (loopNo Try.f3 1) (mkR 182 [(1, AVal.fsl bg 2 gs none), (6, AVal.ptr 0 32 0 0), (8, AVal.slc false 1 1 0 16 (some 16)), (9, AVal.int IntKind.i64 i), (10, AVal.int IntKind.i64 0), (11, AVal.int IntKind.i64 0), (12, AVal.fsl b 3 rs none), (13, AVal.int IntKind.i64 0), (80, AVal.ptr 0 32 0 0), (81, AVal.fsl b 3 rs none)]) [AObj.rows true 32 [row], AObj.rows true 1 n] (AExit.exit 2) (mkR 182 [(6, AVal.ptr 0 32 0 0), (8, AVal.slc false 1 1 0 16 (some 16)), (10, AVal.int IntKind.i64 nx), (11, AVal.int IntKind.i64 lt), (12, AVal.fsl b 3 rs none), (13, AVal.int IntKind.i64 j)]) [AObj.rows true 32 [row], AObj.rows true 1 n],
    Owed.use (owed Try.prog 0) 11 [0] [AVal.ptr 0 32 0 0] [AObj.rows true 32 [row], AObj.rows true 1 n] [AVal.ptr 0 32 0 0] [AObj.rows true 32 [row]] (AVal.fsl b 3 rs none) [AObj.rows true 32 [row]],
    Owed.loop (owed Try.prog 0) (loopNo Try.f3 0) (mkR 182 [(0, AVal.int IntKind.i64 m), (1, AVal.fsl bg 2 gs none), (2, AVal.tuple []), (3, AVal.tuple []), (4, AVal.tt false), (5, AVal.int IntKind.i64 (IntKind.wrap IntKind.i64 (1 + bits BinOp.and IntKind.i64 m 7))), (6, AVal.ptr 0 32 0 0), (7, AVal.int IntKind.i64 0), (8, AVal.slc false 1 1 0 16 (some 16)), (9, AVal.int IntKind.i64 0), (10, AVal.tuple []), (11, AVal.tuple []), (12, AVal.tuple []), (13, AVal.tuple []), (14, AVal.tuple []), (15, AVal.tuple []), (16, AVal.tuple []), (17, AVal.tuple []), (18, AVal.int IntKind.i64 m), (19, AVal.int IntKind.i64 (bits BinOp.and IntKind.i64 m 7)), (20, AVal.int IntKind.i64 (IntKind.wrap IntKind.i64 (1 + bits BinOp.and IntKind.i64 m 7))), (21, AVal.tuple [AVal.ptr 0 32 0 0, AVal.int IntKind.i64 0]), (22, AVal.int IntKind.i64 (IntKind.wrap IntKind.i64 (1 + bits BinOp.and IntKind.i64 m 7))), (23, AVal.tuple [AVal.ptr 0 32 0 0, AVal.int IntKind.i64 0]), (24, AVal.ptr 0 32 0 0), (25, AVal.int IntKind.i64 0), (26, AVal.int IntKind.i64 0), (27, AVal.bool false), (28, AVal.tt false), (29, AVal.ptr 0 32 0 0), (30, AVal.bool false), (31, AVal.tt false), (32, AVal.slc false 1 1 0 16 (some 16)), (33, AVal.tuple []), (34, AVal.tuple []), (35, AVal.tuple []), (36, AVal.tuple []), (37, AVal.tuple []), (38, AVal.tuple []), (39, AVal.tuple []), (40, AVal.tuple []), (41, AVal.tuple []), (42, AVal.tuple []), (43, AVal.tuple []), (44, AVal.tuple []), (45, AVal.tuple []), (46, AVal.tuple []), (47, AVal.tuple []), (48, AVal.tuple []), (49, AVal.tuple []), (50, AVal.tuple []), (51, AVal.tuple []), (52, AVal.tuple []), (53, AVal.tuple []), (54, AVal.tuple []), (55, AVal.tuple []), (56, AVal.tuple []), (57, AVal.tuple []), (58, AVal.tuple []), (59, AVal.tuple []), (60, AVal.tuple []), (61, AVal.tuple []), (62, AVal.tuple []), (63, AVal.tuple []), (64, AVal.tuple []), (65, AVal.tuple []), (66, AVal.tuple []), (67, AVal.tuple []), (68, AVal.tuple []), (69, AVal.tuple []), (70, AVal.tuple []), (71, AVal.tuple []), (72, AVal.tuple []), (73, AVal.tuple []), (74, AVal.tuple []), (75, AVal.tuple []), (76, AVal.tuple []), (77, AVal.tuple []), (78, AVal.tuple []), (79, AVal.tuple []), (80, AVal.tuple []), (81, AVal.tuple []), (82, AVal.tuple []), (83, AVal.tuple []), (84, AVal.tuple []), (85, AVal.tuple []), (86, AVal.tuple []), (87, AVal.tuple []), (88, AVal.tuple []), (89, AVal.tuple []), (90, AVal.tuple []), (91, AVal.tuple []), (92, AVal.tuple []), (93, AVal.tuple []), (94, AVal.tuple []), (95, AVal.tuple []), (96, AVal.tuple []), (97, AVal.tuple []), (98, AVal.tuple []), (99, AVal.tuple []), (100, AVal.tuple []), (101, AVal.tuple []), (102, AVal.tuple []), (103, AVal.tuple []), (104, AVal.tuple []), (105, AVal.tuple []), (106, AVal.tuple []), (107, AVal.tuple []), (108, AVal.tuple []), (109, AVal.tuple []), (110, AVal.tuple []), (111, AVal.tuple []), (112, AVal.tuple []), (113, AVal.tuple []), (114, AVal.tuple []), (115, AVal.tuple []), (116, AVal.tuple []), (117, AVal.tuple []), (118, AVal.tuple []), (119, AVal.tuple []), (120, AVal.tuple []), (121, AVal.tuple []), (122, AVal.tuple []), (123, AVal.tuple []), (124, AVal.tuple []), (125, AVal.tuple []), (126, AVal.tuple []), (127, AVal.tuple []), (128, AVal.tuple []), (129, AVal.tuple []), (130, AVal.tuple []), (131, AVal.tuple []), (132, AVal.tuple []), (133, AVal.tuple []), (134, AVal.tuple []), (135, AVal.tuple []), (136, AVal.tuple []), (137, AVal.tuple []), (138, AVal.tuple []), (139, AVal.tuple []), (140, AVal.tuple []), (141, AVal.tuple []), (142, AVal.tuple []), (143, AVal.tuple []), (144, AVal.tuple []), (145, AVal.tuple []), (146, AVal.tuple []), (147, AVal.tuple []), (148, AVal.tuple []), (149, AVal.tuple []), (150, AVal.tuple []), (151, AVal.tuple []), (152, AVal.tuple []), (153, AVal.tuple []), (154, AVal.tuple []), (155, AVal.tuple []), (156, AVal.tuple []), (157, AVal.tuple []), (158, AVal.tuple []), (159, AVal.tuple []), (160, AVal.tuple []), (161, AVal.tuple []), (162, AVal.tuple []), (163, AVal.tuple []), (164, AVal.tuple []), (165, AVal.tuple []), (166, AVal.tuple []), (167, AVal.tuple []), (168, AVal.tuple []), (169, AVal.tuple []), (170, AVal.tuple []), (171, AVal.tuple []), (172, AVal.tuple []), (173, AVal.tuple []), (174, AVal.tuple []), (175, AVal.tuple []), (176, AVal.tuple []), (177, AVal.tuple []), (178, AVal.tuple []), (179, AVal.tuple []), (180, AVal.tuple []), (181, AVal.tuple [])]) [AObj.rows true 32 [row0], AObj.rows true 1 [[AVal.int IntKind.i64 0], [AVal.int IntKind.i64 0], [AVal.int IntKind.i64 0], [AVal.int IntKind.i64 0], [AVal.int IntKind.i64 0], [AVal.int IntKind.i64 0], [AVal.int IntKind.i64 0], [AVal.int IntKind.i64 0], [AVal.int IntKind.i64 0], [AVal.int IntKind.i64 0], [AVal.int IntKind.i64 0], [AVal.int IntKind.i64 0], [AVal.int IntKind.i64 0], [AVal.int IntKind.i64 0], [AVal.int IntKind.i64 0], [AVal.int IntKind.i64 0]]] (AExit.exit 0) (mkR 182 [(1, AVal.fsl bg 2 gs none), (6, AVal.ptr 0 32 0 0), (8, AVal.slc false 1 1 0 16 (some 16)), (9, AVal.int IntKind.i64 i)]) [AObj.rows true 32 [row], AObj.rows true 1 n],
    true = true,
    false = false,
    false = false,
    Owed.use (owed Try.prog 0) 9 [] [AVal.int IntKind.i64 (IntKind.wrap IntKind.i64 (1 + bits BinOp.and IntKind.i64 m 7))] [] [AVal.int IntKind.i64 (IntKind.wrap IntKind.i64 (1 + bits BinOp.and IntKind.i64 m 7))] [] (AVal.tuple [AVal.ptr 0 32 0 0, AVal.int IntKind.i64 0]) [AObj.rows true 32 [row0]]]) by kernel_rfl) (allP_of (⟨h1, (h2).keep (keepM 182 [6, 8, 10, 11, 12, 13]) (by kernel_rfl), ⟨h3, rfl, rfl, rfl⟩, (h4).keep (keepM 182 [1, 6, 8, 9]) (by kernel_rfl), rfl, rfl, rfl, ⟨h5, rfl, rfl, rfl⟩, trivial⟩))).move ([]) (by kernel_rfl) (by kernel_rfl) (by kernel_rfl)


end Go.L10

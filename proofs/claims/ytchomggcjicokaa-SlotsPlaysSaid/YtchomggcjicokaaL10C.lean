import Derived.Test.YtchomggcjicokaaL10B
set_option linter.unusedVariables false
set_option maxRecDepth 100000
namespace Go.L10
open Go Go.Abs Go.Proofs

theorem awake_1 (r0 : List AVal) (r1 : List AVal) (rs : List (List AVal)) (b : Bool)
    (h1 : FOk Try.prog 11 [AVal.ptr 0 32 0 0] [AObj.rows true 32 [r1]] (AVal.fsl b 3 rs none) [AObj.rows true 32 [r1]])
    (h2 : FOk Try.prog 12 [AVal.ptr 0 32 0 0, AVal.int IntKind.i64 8] [AObj.rows true 32 [r1]] (AVal.tuple [AVal.int IntKind.i64 1, AVal.int IntKind.i64 2, AVal.int IntKind.i64 0]) [AObj.rows true 32 [r1]])
    (h3 : FOk Try.prog 10 [AVal.ptr 0 32 0 0, AVal.int IntKind.i64 8, AVal.int IntKind.i64 1] [AObj.rows true 32 [r0]] (AVal.int IntKind.i64 0) [AObj.rows true 32 [r1]])
    (h4 : FOk Try.prog 10 [AVal.ptr 0 32 0 0, AVal.int IntKind.i64 8, AVal.int IntKind.i64 2] [AObj.rows true 32 [r0]] (AVal.int IntKind.i64 90) [AObj.rows true 32 [r0]])
    (h5 : FOk Try.prog 9 [AVal.int IntKind.i64 2] [] (AVal.tuple [AVal.ptr 0 32 0 0, AVal.int IntKind.i64 0]) [AObj.rows true 32 [r0]]) :
    FOk Try.prog 13 ([]) ([]) (AVal.bool ((↑(List.length rs) : Int) == 2)) ([]) :=
  (evalF_ok followed Try.func13 (by kernel_rfl) (show evalF Try.prog Try.f13 ([]) ([]) ([Dec.use [] [AVal.int IntKind.i64 2] [] (AVal.tuple [AVal.ptr 0 32 0 0, AVal.int IntKind.i64 0]) [AObj.rows true 32 [r0]], Dec.br false, Dec.br false, Dec.use [0] [AVal.ptr 0 32 0 0, AVal.int IntKind.i64 8, AVal.int IntKind.i64 2] [AObj.rows true 32 [r0]] (AVal.int IntKind.i64 90) [AObj.rows true 32 [r0]], Dec.br false, Dec.use [0] [AVal.ptr 0 32 0 0, AVal.int IntKind.i64 8, AVal.int IntKind.i64 1] [AObj.rows true 32 [r0]] (AVal.int IntKind.i64 0) [AObj.rows true 32 [r1]], Dec.br false, Dec.use [0] [AVal.ptr 0 32 0 0, AVal.int IntKind.i64 8] [AObj.rows true 32 [r1]] (AVal.tuple [AVal.int IntKind.i64 1, AVal.int IntKind.i64 2, AVal.int IntKind.i64 0]) [AObj.rows true 32 [r1]], Dec.br true, Dec.br true, Dec.br true, Dec.use [0] [AVal.ptr 0 32 0 0] [AObj.rows true 32 [r1]] (AVal.fsl b 3 rs none) [AObj.rows true 32 [r1]]]) = .ok (FRes.mk (AVal.bool ((↑(List.length rs) : Int) == 2)) ([AObj.rows true 32 [r1]]) [Owed.use (owed Try.prog 0) 11 [0] [AVal.ptr 0 32 0 0] [AObj.rows true 32 [r1]] [AVal.ptr 0 32 0 0] [AObj.rows true 32 [r1]] (AVal.fsl b 3 rs none) [AObj.rows true 32 [r1]],
    (0 == 0) = true,
    (2 == 2) = true,
    (1 == 1) = true,
    Owed.use (owed Try.prog 0) 12 [0] [AVal.ptr 0 32 0 0, AVal.int IntKind.i64 8] [AObj.rows true 32 [r1]] [AVal.ptr 0 32 0 0, AVal.int IntKind.i64 8] [AObj.rows true 32 [r1]] (AVal.tuple [AVal.int IntKind.i64 1, AVal.int IntKind.i64 2, AVal.int IntKind.i64 0]) [AObj.rows true 32 [r1]],
    false = false,
    Owed.use (owed Try.prog 0) 10 [0] [AVal.ptr 0 32 0 0, AVal.int IntKind.i64 8, AVal.int IntKind.i64 1] [AObj.rows true 32 [r0]] [AVal.ptr 0 32 0 0, AVal.int IntKind.i64 8, AVal.int IntKind.i64 1] [AObj.rows true 32 [r0]] (AVal.int IntKind.i64 0) [AObj.rows true 32 [r1]],
    (90 != 90) = false,
    Owed.use (owed Try.prog 0) 10 [0] [AVal.ptr 0 32 0 0, AVal.int IntKind.i64 8, AVal.int IntKind.i64 2] [AObj.rows true 32 [r0]] [AVal.ptr 0 32 0 0, AVal.int IntKind.i64 8, AVal.int IntKind.i64 2] [AObj.rows true 32 [r0]] (AVal.int IntKind.i64 90) [AObj.rows true 32 [r0]],
    false = false,
    (0 != 0) = false,
    Owed.use (owed Try.prog 0) 9 [] [AVal.int IntKind.i64 2] [] [AVal.int IntKind.i64 2] [] (AVal.tuple [AVal.ptr 0 32 0 0, AVal.int IntKind.i64 0]) [AObj.rows true 32 [r0]]]) by kernel_rfl) (allP_of (⟨⟨h1, rfl, rfl, rfl⟩, rfl, rfl, rfl, ⟨h2, rfl, rfl, rfl⟩, rfl, ⟨h3, rfl, rfl, rfl⟩, rfl, ⟨h4, rfl, rfl, rfl⟩, rfl, rfl, ⟨h5, rfl, rfl, rfl⟩, trivial⟩))).move ([]) (by kernel_rfl) (by kernel_rfl) (by kernel_rfl)



def rgE (k : Int) (s : Int) : Regs := mkR 87 [(3, .int .i64 k), (4, .ptr 0 32 0 0), (6, .slc false 1 1 0 9 (some 9)), (7, .int .i64 s)]
def rgE2 (k : Int) (s : Int) : Regs := mkR 87 [(3, .int .i64 k), (4, .ptr 0 32 0 0), (6, .slc false 1 1 0 9 (some 9)), (11, .int .i64 s)]
theorem evA_1 (row : List AVal) (n : List (List AVal)) (k : Int) (s : Int) (g : Int) (e : Int)
    (h1 : decide (g < 1) = true)
    (h2 : FOk Try.prog 12 [AVal.ptr 0 32 0 0, AVal.int IntKind.i64 s] [AObj.rows true 32 [row]] (AVal.tuple [AVal.int IntKind.i64 g, AVal.int IntKind.i64 e, AVal.int IntKind.i64 0]) [AObj.rows true 32 [row]])
    (h3 : decide (s < 16) = true) :
    TripN Try.prog 0 (loopNo Try.f4 0) (rgE k s) ([AObj.rows true 32 [row], AObj.rows true 1 n]) (AExit.ret) (mkR 87 [(3, AVal.int IntKind.i64 k), (4, AVal.ptr 0 32 0 0), (6, AVal.slc false 1 1 0 9 (some 9)), (7, AVal.int IntKind.i64 s)]) ([AObj.rows true 32 [row], AObj.rows true 1 n]) :=
  evalT (st := St.mk (rgE k s) ([AObj.rows true 32 [row], AObj.rows true 1 n]) ([Dec.br true, Dec.use [0] [AVal.ptr 0 32 0 0, AVal.int IntKind.i64 s] [AObj.rows true 32 [row]] (AVal.tuple [AVal.int IntKind.i64 g, AVal.int IntKind.i64 e, AVal.int IntKind.i64 0]) [AObj.rows true 32 [row]], Dec.br false, Dec.br true]) []) (st' := St.mk ([AVal.any, AVal.any, AVal.tt false, AVal.int IntKind.i64 k, AVal.ptr 0 32 0 0, AVal.any, AVal.slc false 1 1 0 9 (some 9), AVal.int IntKind.i64 s, AVal.int IntKind.i64 g, AVal.int IntKind.i64 e, AVal.int IntKind.i64 0, AVal.any, AVal.any, AVal.any, AVal.any, AVal.any, AVal.any, AVal.any, AVal.any, AVal.any, AVal.any, AVal.any, AVal.any, AVal.any, AVal.any, AVal.any, AVal.any, AVal.int IntKind.i64 s, AVal.tt true, AVal.any, AVal.any, AVal.tuple [AVal.int IntKind.i64 g, AVal.int IntKind.i64 e, AVal.int IntKind.i64 0], AVal.ptr 0 32 0 0, AVal.int IntKind.i64 s, AVal.tuple [AVal.int IntKind.i64 g, AVal.int IntKind.i64 e, AVal.int IntKind.i64 0], AVal.int IntKind.i64 g, AVal.int IntKind.i64 e, AVal.int IntKind.i64 0, AVal.int IntKind.i64 0, AVal.bool false, AVal.tt false, AVal.int IntKind.i64 g, AVal.bool (decide (g < 1)), AVal.bool (decide (g < 1)), AVal.tt true, AVal.tuple [], AVal.tuple [], AVal.tuple [], AVal.tt true, AVal.any, AVal.any, AVal.any, AVal.any, AVal.any, AVal.any, AVal.any, AVal.any, AVal.any, AVal.any, AVal.any, AVal.any, AVal.any, AVal.any, AVal.any, AVal.any, AVal.any, AVal.any, AVal.any, AVal.any, AVal.any, AVal.any, AVal.any, AVal.any, AVal.any, AVal.any, AVal.any, AVal.any, AVal.any, AVal.any, AVal.any, AVal.any, AVal.any, AVal.any, AVal.any, AVal.any, AVal.any, AVal.any]) ([AObj.rows true 32 [row], AObj.rows true 1 n]) ([]) [decide (g < 1) = true,
    (0 != 0) = false,
    Owed.use (owed Try.prog 0) 12 [0] [AVal.ptr 0 32 0 0, AVal.int IntKind.i64 s] [AObj.rows true 32 [row], AObj.rows true 1 n] [AVal.ptr 0 32 0 0, AVal.int IntKind.i64 s] [AObj.rows true 32 [row]] (AVal.tuple [AVal.int IntKind.i64 g, AVal.int IntKind.i64 e, AVal.int IntKind.i64 0]) [AObj.rows true 32 [row]],
    decide (s < 16) = true]) followed (by kernel_rfl) (allP_of (⟨h1, rfl, ⟨h2, rfl, rfl, rfl⟩, h3, trivial⟩)) (keepM 87 [3, 4, 6, 7]) ([0, 1]) (by kernel_rfl) (by kernel_rfl) (by kernel_rfl)

theorem evA_2 (row : List AVal) (n : List (List AVal)) (k : Int) (s : Int) (g : Int) (e : Int)
    (h1 : decide (g > k) = true)
    (h2 : decide (g < 1) = false)
    (h3 : FOk Try.prog 12 [AVal.ptr 0 32 0 0, AVal.int IntKind.i64 s] [AObj.rows true 32 [row]] (AVal.tuple [AVal.int IntKind.i64 g, AVal.int IntKind.i64 e, AVal.int IntKind.i64 0]) [AObj.rows true 32 [row]])
    (h4 : decide (s < 16) = true) :
    TripN Try.prog 0 (loopNo Try.f4 0) (rgE k s) ([AObj.rows true 32 [row], AObj.rows true 1 n]) (AExit.ret) (mkR 87 [(3, AVal.int IntKind.i64 k), (4, AVal.ptr 0 32 0 0), (6, AVal.slc false 1 1 0 9 (some 9)), (7, AVal.int IntKind.i64 s)]) ([AObj.rows true 32 [row], AObj.rows true 1 n]) :=
  evalT (st := St.mk (rgE k s) ([AObj.rows true 32 [row], AObj.rows true 1 n]) ([Dec.br true, Dec.use [0] [AVal.ptr 0 32 0 0, AVal.int IntKind.i64 s] [AObj.rows true 32 [row]] (AVal.tuple [AVal.int IntKind.i64 g, AVal.int IntKind.i64 e, AVal.int IntKind.i64 0]) [AObj.rows true 32 [row]], Dec.br false, Dec.br false, Dec.br true]) []) (st' := St.mk ([AVal.any, AVal.any, AVal.tt false, AVal.int IntKind.i64 k, AVal.ptr 0 32 0 0, AVal.any, AVal.slc false 1 1 0 9 (some 9), AVal.int IntKind.i64 s, AVal.int IntKind.i64 g, AVal.int IntKind.i64 e, AVal.int IntKind.i64 0, AVal.any, AVal.any, AVal.any, AVal.any, AVal.any, AVal.any, AVal.any, AVal.any, AVal.any, AVal.any, AVal.any, AVal.any, AVal.any, AVal.any, AVal.any, AVal.any, AVal.int IntKind.i64 s, AVal.tt true, AVal.any, AVal.any, AVal.tuple [AVal.int IntKind.i64 g, AVal.int IntKind.i64 e, AVal.int IntKind.i64 0], AVal.ptr 0 32 0 0, AVal.int IntKind.i64 s, AVal.tuple [AVal.int IntKind.i64 g, AVal.int IntKind.i64 e, AVal.int IntKind.i64 0], AVal.int IntKind.i64 g, AVal.int IntKind.i64 e, AVal.int IntKind.i64 0, AVal.int IntKind.i64 0, AVal.bool false, AVal.tt false, AVal.int IntKind.i64 g, AVal.bool (decide (g < 1)), AVal.bool (decide (g < 1)), AVal.tt false, AVal.int IntKind.i64 g, AVal.int IntKind.i64 k, AVal.bool (decide (g > k)), AVal.tt true, AVal.any, AVal.any, AVal.any, AVal.any, AVal.any, AVal.any, AVal.any, AVal.any, AVal.any, AVal.any, AVal.any, AVal.any, AVal.any, AVal.any, AVal.any, AVal.any, AVal.any, AVal.any, AVal.any, AVal.any, AVal.any, AVal.any, AVal.any, AVal.any, AVal.any, AVal.any, AVal.any, AVal.any, AVal.any, AVal.any, AVal.any, AVal.any, AVal.any, AVal.any, AVal.any, AVal.any, AVal.any, AVal.any]) ([AObj.rows true 32 [row], AObj.rows true 1 n]) ([]) [decide (g > k) = true,
    decide (g < 1) = false,
    (0 != 0) = false,
    Owed.use (owed Try.prog 0) 12 [0] [AVal.ptr 0 32 0 0, AVal.int IntKind.i64 s] [AObj.rows true 32 [row], AObj.rows true 1 n] [AVal.ptr 0 32 0 0, AVal.int IntKind.i64 s] [AObj.rows true 32 [row]] (AVal.tuple [AVal.int IntKind.i64 g, AVal.int IntKind.i64 e, AVal.int IntKind.i64 0]) [AObj.rows true 32 [row]],
    decide (s < 16) = true]) followed (by kernel_rfl) (allP_of (⟨h1, h2, rfl, ⟨h3, rfl, rfl, rfl⟩, h4, trivial⟩)) (keepM 87 [3, 4, 6, 7]) ([0, 1]) (by kernel_rfl) (by kernel_rfl) (by kernel_rfl)

theorem evA_3 (row : List AVal) (n : List (List AVal)) (k : Int) (s : Int) (g : Int) (e : Int)
    (h1 : decide (Int.toNat g + 0 < List.length n) = true)
    (h2 : decide (0 ≤ g ∧ g < (↑9 : Int)) = true)
    (h3 : areKinds [Kind.int IntKind.i64] [List.getD (List.getD n (Int.toNat g + 0) []) 0 AVal.any] = true)
    (h4 : decide (g > k) = false)
    (h5 : decide (g < 1) = false)
    (h6 : FOk Try.prog 12 [AVal.ptr 0 32 0 0, AVal.int IntKind.i64 s] [AObj.rows true 32 [row]] (AVal.tuple [AVal.int IntKind.i64 g, AVal.int IntKind.i64 e, AVal.int IntKind.i64 0]) [AObj.rows true 32 [row]])
    (h7 : decide (s < 16) = true) :
    TripN Try.prog 0 (loopNo Try.f4 0) (rgE k s) ([AObj.rows true 32 [row], AObj.rows true 1 n]) (AExit.normal) (mkR 87 [(3, AVal.int IntKind.i64 k), (4, AVal.ptr 0 32 0 0), (6, AVal.slc false 1 1 0 9 (some 9)), (7, AVal.int IntKind.i64 (IntKind.wrap IntKind.i64 (s + 1)))]) ([AObj.rows true 32 [row], AObj.rows true 1 (List.set n (Int.toNat g + 0) (setCells (List.getD n (Int.toNat g + 0) []) 0 [AVal.int IntKind.i64 (IntKind.wrap IntKind.i64 (AVal.toInt (List.getD (List.getD n (Int.toNat g + 0) []) 0 AVal.any) + 1))]))]) :=
  evalT (st := St.mk (rgE k s) ([AObj.rows true 32 [row], AObj.rows true 1 n]) ([Dec.br true, Dec.use [0] [AVal.ptr 0 32 0 0, AVal.int IntKind.i64 s] [AObj.rows true 32 [row]] (AVal.tuple [AVal.int IntKind.i64 g, AVal.int IntKind.i64 e, AVal.int IntKind.i64 0]) [AObj.rows true 32 [row]], Dec.br false, Dec.br false, Dec.br false]) []) (st' := St.mk ([AVal.any, AVal.any, AVal.any, AVal.int IntKind.i64 k, AVal.ptr 0 32 0 0, AVal.any, AVal.slc false 1 1 0 9 (some 9), AVal.int IntKind.i64 (IntKind.wrap IntKind.i64 (s + 1)), AVal.int IntKind.i64 g, AVal.int IntKind.i64 e, AVal.int IntKind.i64 0, AVal.any, AVal.any, AVal.any, AVal.any, AVal.any, AVal.any, AVal.any, AVal.any, AVal.any, AVal.any, AVal.any, AVal.any, AVal.any, AVal.any, AVal.any, AVal.any, AVal.int IntKind.i64 s, AVal.tt true, AVal.int IntKind.i64 s, AVal.int IntKind.i64 (IntKind.wrap IntKind.i64 (s + 1)), AVal.tuple [AVal.int IntKind.i64 g, AVal.int IntKind.i64 e, AVal.int IntKind.i64 0], AVal.ptr 0 32 0 0, AVal.int IntKind.i64 s, AVal.tuple [AVal.int IntKind.i64 g, AVal.int IntKind.i64 e, AVal.int IntKind.i64 0], AVal.int IntKind.i64 g, AVal.int IntKind.i64 e, AVal.int IntKind.i64 0, AVal.int IntKind.i64 0, AVal.bool false, AVal.tt false, AVal.int IntKind.i64 g, AVal.bool (decide (g < 1)), AVal.bool (decide (g < 1)), AVal.tt false, AVal.int IntKind.i64 g, AVal.int IntKind.i64 k, AVal.bool (decide (g > k)), AVal.tt false, AVal.slc false 1 1 0 9 (some 9), AVal.int IntKind.i64 g, AVal.ptr 1 1 (Int.toNat g + 0) 0, AVal.int IntKind.i64 (AVal.toInt (List.getD (List.getD n (Int.toNat g + 0) []) 0 AVal.any)), AVal.int IntKind.i64 (IntKind.wrap IntKind.i64 (AVal.toInt (List.getD (List.getD n (Int.toNat g + 0) []) 0 AVal.any) + 1)), AVal.ptr 1 1 (Int.toNat g + 0) 0, AVal.any, AVal.any, AVal.any, AVal.any, AVal.any, AVal.any, AVal.any, AVal.any, AVal.any, AVal.any, AVal.any, AVal.any, AVal.any, AVal.any, AVal.any, AVal.any, AVal.any, AVal.any, AVal.any, AVal.any, AVal.any, AVal.any, AVal.any, AVal.any, AVal.any, AVal.any, AVal.any, AVal.any, AVal.any, AVal.any, AVal.any, AVal.any]) ([AObj.rows true 32 [row], AObj.rows true 1 (List.set n (Int.toNat g + 0) (setCells (List.getD n (Int.toNat g + 0) []) 0 [AVal.int IntKind.i64 (IntKind.wrap IntKind.i64 (AVal.toInt (List.getD (List.getD n (Int.toNat g + 0) []) 0 AVal.any) + 1))]))]) ([]) [decide (Int.toNat g + 0 < List.length n) = true,
    true = true,
    decide (0 ≤ g ∧ g < (↑9 : Int)) = true,
    decide (Int.toNat g + 0 < List.length n) = true,
    true = true,
    areKinds [Kind.int IntKind.i64] [List.getD (List.getD n (Int.toNat g + 0) []) 0 AVal.any] = true,
    decide (0 ≤ g ∧ g < (↑9 : Int)) = true,
    decide (g > k) = false,
    decide (g < 1) = false,
    (0 != 0) = false,
    Owed.use (owed Try.prog 0) 12 [0] [AVal.ptr 0 32 0 0, AVal.int IntKind.i64 s] [AObj.rows true 32 [row], AObj.rows true 1 n] [AVal.ptr 0 32 0 0, AVal.int IntKind.i64 s] [AObj.rows true 32 [row]] (AVal.tuple [AVal.int IntKind.i64 g, AVal.int IntKind.i64 e, AVal.int IntKind.i64 0]) [AObj.rows true 32 [row]],
    decide (s < 16) = true]) followed (by kernel_rfl) (allP_of (⟨h1, rfl, h2, h1, rfl, h3, h2, h4, h5, rfl, ⟨h6, rfl, rfl, rfl⟩, h7, trivial⟩)) (keepM 87 [3, 4, 6, 7]) ([0, 1]) (by kernel_rfl) (by kernel_rfl) (by kernel_rfl)

theorem evA_4 (row : List AVal) (n : List (List AVal)) (k : Int) (s : Int) (g : Int) (e : Int)
    (h1 : decide (s < 16) = false) :
    TripN Try.prog 0 (loopNo Try.f4 0) (rgE k s) ([AObj.rows true 32 [row], AObj.rows true 1 n]) (AExit.exit 0) (mkR 87 [(3, AVal.int IntKind.i64 k), (4, AVal.ptr 0 32 0 0), (6, AVal.slc false 1 1 0 9 (some 9)), (7, AVal.int IntKind.i64 s)]) ([AObj.rows true 32 [row], AObj.rows true 1 n]) :=
  evalT (st := St.mk (rgE k s) ([AObj.rows true 32 [row], AObj.rows true 1 n]) ([Dec.br false]) []) (st' := St.mk ([AVal.any, AVal.any, AVal.any, AVal.int IntKind.i64 k, AVal.ptr 0 32 0 0, AVal.any, AVal.slc false 1 1 0 9 (some 9), AVal.int IntKind.i64 s, AVal.any, AVal.any, AVal.any, AVal.any, AVal.any, AVal.any, AVal.any, AVal.any, AVal.any, AVal.any, AVal.any, AVal.any, AVal.any, AVal.any, AVal.any, AVal.any, AVal.any, AVal.any, AVal.any, AVal.int IntKind.i64 s, AVal.tt false, AVal.any, AVal.any, AVal.any, AVal.any, AVal.any, AVal.any, AVal.any, AVal.any, AVal.any, AVal.any, AVal.any, AVal.any, AVal.any, AVal.any, AVal.any, AVal.any, AVal.any, AVal.any, AVal.any, AVal.any, AVal.any, AVal.any, AVal.any, AVal.any, AVal.any, AVal.any, AVal.any, AVal.any, AVal.any, AVal.any, AVal.any, AVal.any, AVal.any, AVal.any, AVal.any, AVal.any, AVal.any, AVal.any, AVal.any, AVal.any, AVal.any, AVal.any, AVal.any, AVal.any, AVal.any, AVal.any, AVal.any, AVal.any, AVal.any, AVal.any, AVal.any, AVal.any, AVal.any, AVal.any, AVal.any, AVal.any, AVal.any, AVal.any]) ([AObj.rows true 32 [row], AObj.rows true 1 n]) ([]) [decide (s < 16) = false]) followed (by kernel_rfl) (allP_of (⟨h1, trivial⟩)) (keepM 87 [3, 4, 6, 7]) ([0, 1]) (by kernel_rfl) (by kernel_rfl) (by kernel_rfl)


theorem evB_1 (row : List AVal) (n : List (List AVal)) (k : Int) (s : Int)
    (h1 : decide (AVal.toInt (List.getD (List.getD n (Int.toNat s + 0) []) 0 AVal.any) < IntKind.wrap IntKind.i64 (Int.tdiv 16 k)) = true)
    (h2 : decide (k ≠ 0) = true)
    (h3 : decide (Int.toNat s + 0 < List.length n) = true)
    (h4 : areKinds [Kind.int IntKind.i64] [List.getD (List.getD n (Int.toNat s + 0) []) 0 AVal.any] = true)
    (h5 : decide (0 ≤ s ∧ s < (↑9 : Int)) = true)
    (h6 : decide (s ≤ k) = true) :
    TripN Try.prog 0 (loopNo Try.f4 1) (rgE2 k s) ([AObj.rows true 32 [row], AObj.rows true 1 n]) (AExit.ret) (mkR 87 [(3, AVal.int IntKind.i64 k), (4, AVal.ptr 0 32 0 0), (6, AVal.slc false 1 1 0 9 (some 9)), (11, AVal.int IntKind.i64 s)]) ([AObj.rows true 32 [row], AObj.rows true 1 n]) :=
  evalT (st := St.mk (rgE2 k s) ([AObj.rows true 32 [row], AObj.rows true 1 n]) ([Dec.br true, Dec.br true]) []) (st' := St.mk ([AVal.any, AVal.any, AVal.tt false, AVal.int IntKind.i64 k, AVal.ptr 0 32 0 0, AVal.any, AVal.slc false 1 1 0 9 (some 9), AVal.any, AVal.any, AVal.any, AVal.any, AVal.int IntKind.i64 s, AVal.any, AVal.any, AVal.any, AVal.any, AVal.any, AVal.any, AVal.any, AVal.any, AVal.any, AVal.any, AVal.any, AVal.any, AVal.any, AVal.any, AVal.any, AVal.any, AVal.any, AVal.any, AVal.any, AVal.any, AVal.any, AVal.any, AVal.any, AVal.any, AVal.any, AVal.any, AVal.any, AVal.any, AVal.any, AVal.any, AVal.any, AVal.any, AVal.any, AVal.any, AVal.any, AVal.any, AVal.any, AVal.any, AVal.any, AVal.any, AVal.any, AVal.any, AVal.any, AVal.int IntKind.i64 s, AVal.int IntKind.i64 k, AVal.tt true, AVal.any, AVal.any, AVal.slc false 1 1 0 9 (some 9), AVal.int IntKind.i64 s, AVal.ptr 1 1 (Int.toNat s + 0) 0, AVal.int IntKind.i64 (AVal.toInt (List.getD (List.getD n (Int.toNat s + 0) []) 0 AVal.any)), AVal.int IntKind.i64 k, AVal.int IntKind.i64 (IntKind.wrap IntKind.i64 (Int.tdiv 16 k)), AVal.bool (decide (AVal.toInt (List.getD (List.getD n (Int.toNat s + 0) []) 0 AVal.any) < IntKind.wrap IntKind.i64 (Int.tdiv 16 k))), AVal.tt true, AVal.tuple [], AVal.tuple [], AVal.tuple [], AVal.tuple [], AVal.tuple [], AVal.tuple [], AVal.tuple [], AVal.tuple [], AVal.tuple [], AVal.tuple [], AVal.tt true, AVal.any, AVal.any, AVal.any, AVal.any, AVal.any, AVal.any, AVal.any, AVal.any]) ([AObj.rows true 32 [row], AObj.rows true 1 n]) ([]) [true = true,
    true = true,
    true = true,
    true = true,
    true = true,
    true = true,
    true = true,
    true = true,
    true = true,
    true = true,
    true = true,
    true = true,
    true = true,
    true = true,
    true = true,
    true = true,
    true = true,
    true = true,
    true = true,
    true = true,
    true = true,
    true = true,
    decide (AVal.toInt (List.getD (List.getD n (Int.toNat s + 0) []) 0 AVal.any) < IntKind.wrap IntKind.i64 (Int.tdiv 16 k)) = true,
    true = true,
    true = true,
    true = true,
    true = true,
    true = true,
    true = true,
    decide (k ≠ 0) = true,
    true = true,
    true = true,
    true = true,
    true = true,
    decide (Int.toNat s + 0 < List.length n) = true,
    true = true,
    areKinds [Kind.int IntKind.i64] [List.getD (List.getD n (Int.toNat s + 0) []) 0 AVal.any] = true,
    true = true,
    true = true,
    decide (0 ≤ s ∧ s < (↑9 : Int)) = true,
    true = true,
    true = true,
    true = true,
    true = true,
    true = true,
    decide (s ≤ k) = true]) followed (by kernel_rfl) (allP_of (⟨rfl, rfl, rfl, rfl, rfl, rfl, rfl, rfl, rfl, rfl, rfl, rfl, rfl, rfl, rfl, rfl, rfl, rfl, rfl, rfl, rfl, rfl, h1, rfl, rfl, rfl, rfl, rfl, rfl, h2, rfl, rfl, rfl, rfl, h3, rfl, h4, rfl, rfl, h5, rfl, rfl, rfl, rfl, rfl, h6, trivial⟩)) (keepM 87 [3, 4, 6, 11]) ([0, 1]) (by kernel_rfl) (by kernel_rfl) (by kernel_rfl)

theorem evB_2 (row : List AVal) (n : List (List AVal)) (k : Int) (s : Int)
    (h1 : decide (AVal.toInt (List.getD (List.getD n (Int.toNat s + 0) []) 0 AVal.any) > IntKind.wrap IntKind.i64 (Int.tdiv (IntKind.wrap IntKind.i64 (IntKind.wrap IntKind.i64 (16 + k) - 1)) k)) = true)
    (h2 : decide (k ≠ 0) = true)
    (h3 : decide (Int.toNat s + 0 < List.length n) = true)
    (h4 : areKinds [Kind.int IntKind.i64] [List.getD (List.getD n (Int.toNat s + 0) []) 0 AVal.any] = true)
    (h5 : decide (0 ≤ s ∧ s < (↑9 : Int)) = true)
    (h6 : decide (AVal.toInt (List.getD (List.getD n (Int.toNat s + 0) []) 0 AVal.any) < IntKind.wrap IntKind.i64 (Int.tdiv 16 k)) = false)
    (h7 : decide (s ≤ k) = true) :
    TripN Try.prog 0 (loopNo Try.f4 1) (rgE2 k s) ([AObj.rows true 32 [row], AObj.rows true 1 n]) (AExit.ret) (mkR 87 [(3, AVal.int IntKind.i64 k), (4, AVal.ptr 0 32 0 0), (6, AVal.slc false 1 1 0 9 (some 9)), (11, AVal.int IntKind.i64 s)]) ([AObj.rows true 32 [row], AObj.rows true 1 n]) :=
  evalT (st := St.mk (rgE2 k s) ([AObj.rows true 32 [row], AObj.rows true 1 n]) ([Dec.br true, Dec.br false, Dec.br true]) []) (st' := St.mk ([AVal.any, AVal.any, AVal.tt false, AVal.int IntKind.i64 k, AVal.ptr 0 32 0 0, AVal.any, AVal.slc false 1 1 0 9 (some 9), AVal.any, AVal.any, AVal.any, AVal.any, AVal.int IntKind.i64 s, AVal.any, AVal.any, AVal.any, AVal.any, AVal.any, AVal.any, AVal.any, AVal.any, AVal.any, AVal.any, AVal.any, AVal.any, AVal.any, AVal.any, AVal.any, AVal.any, AVal.any, AVal.any, AVal.any, AVal.any, AVal.any, AVal.any, AVal.any, AVal.any, AVal.any, AVal.any, AVal.any, AVal.any, AVal.any, AVal.any, AVal.any, AVal.any, AVal.any, AVal.any, AVal.any, AVal.any, AVal.any, AVal.any, AVal.any, AVal.any, AVal.any, AVal.any, AVal.any, AVal.int IntKind.i64 s, AVal.int IntKind.i64 k, AVal.tt true, AVal.any, AVal.any, AVal.slc false 1 1 0 9 (some 9), AVal.int IntKind.i64 s, AVal.ptr 1 1 (Int.toNat s + 0) 0, AVal.int IntKind.i64 (AVal.toInt (List.getD (List.getD n (Int.toNat s + 0) []) 0 AVal.any)), AVal.int IntKind.i64 k, AVal.int IntKind.i64 (IntKind.wrap IntKind.i64 (Int.tdiv 16 k)), AVal.bool (decide (AVal.toInt (List.getD (List.getD n (Int.toNat s + 0) []) 0 AVal.any) < IntKind.wrap IntKind.i64 (Int.tdiv 16 k))), AVal.tt false, AVal.slc false 1 1 0 9 (some 9), AVal.int IntKind.i64 s, AVal.ptr 1 1 (Int.toNat s + 0) 0, AVal.int IntKind.i64 (AVal.toInt (List.getD (List.getD n (Int.toNat s + 0) []) 0 AVal.any)), AVal.int IntKind.i64 k, AVal.int IntKind.i64 (IntKind.wrap IntKind.i64 (16 + k)), AVal.int IntKind.i64 (IntKind.wrap IntKind.i64 (IntKind.wrap IntKind.i64 (16 + k) - 1)), AVal.int IntKind.i64 k, AVal.int IntKind.i64 (IntKind.wrap IntKind.i64 (Int.tdiv (IntKind.wrap IntKind.i64 (IntKind.wrap IntKind.i64 (16 + k) - 1)) k)), AVal.bool (decide (AVal.toInt (List.getD (List.getD n (Int.toNat s + 0) []) 0 AVal.any) > IntKind.wrap IntKind.i64 (Int.tdiv (IntKind.wrap IntKind.i64 (IntKind.wrap IntKind.i64 (16 + k) - 1)) k))), AVal.tt true, AVal.any, AVal.any, AVal.any, AVal.any, AVal.any, AVal.any, AVal.any, AVal.any]) ([AObj.rows true 32 [row], AObj.rows true 1 n]) ([]) [decide (AVal.toInt (List.getD (List.getD n (Int.toNat s + 0) []) 0 AVal.any) > IntKind.wrap IntKind.i64 (Int.tdiv (IntKind.wrap IntKind.i64 (IntKind.wrap IntKind.i64 (16 + k) - 1)) k)) = true,
    true = true,
    true = true,
    true = true,
    true = true,
    true = true,
    true = true,
    decide (k ≠ 0) = true,
    true = true,
    true = true,
    true = true,
    true = true,
    true = true,
    true = true,
    true = true,
    true = true,
    true = true,
    true = true,
    decide (Int.toNat s + 0 < List.length n) = true,
    true = true,
    areKinds [Kind.int IntKind.i64] [List.getD (List.getD n (Int.toNat s + 0) []) 0 AVal.any] = true,
    true = true,
    true = true,
    decide (0 ≤ s ∧ s < (↑9 : Int)) = true,
    true = true,
    true = true,
    true = true,
    true = true,
    decide (AVal.toInt (List.getD (List.getD n (Int.toNat s + 0) []) 0 AVal.any) < IntKind.wrap IntKind.i64 (Int.tdiv 16 k)) = false,
    true = true,
    true = true,
    true = true,
    true = true,
    true = true,
    true = true,
    decide (k ≠ 0) = true,
    true = true,
    true = true,
    true = true,
    true = true,
    decide (Int.toNat s + 0 < List.length n) = true,
    true = true,
    areKinds [Kind.int IntKind.i64] [List.getD (List.getD n (Int.toNat s + 0) []) 0 AVal.any] = true,
    true = true,
    true = true,
    decide (0 ≤ s ∧ s < (↑9 : Int)) = true,
    true = true,
    true = true,
    true = true,
    true = true,
    true = true,
    decide (s ≤ k) = true]) followed (by kernel_rfl) (allP_of (⟨h1, rfl, rfl, rfl, rfl, rfl, rfl, h2, rfl, rfl, rfl, rfl, rfl, rfl, rfl, rfl, rfl, rfl, h3, rfl, h4, rfl, rfl, h5, rfl, rfl, rfl, rfl, h6, rfl, rfl, rfl, rfl, rfl, rfl, h2, rfl, rfl, rfl, rfl, h3, rfl, h4, rfl, rfl, h5, rfl, rfl, rfl, rfl, rfl, h7, trivial⟩)) (keepM 87 [3, 4, 6, 11]) ([0, 1]) (by kernel_rfl) (by kernel_rfl) (by kernel_rfl)

theorem evB_3 (row : List AVal) (n : List (List AVal)) (k : Int) (s : Int)
    (h1 : decide (AVal.toInt (List.getD (List.getD n (Int.toNat s + 0) []) 0 AVal.any) > IntKind.wrap IntKind.i64 (Int.tdiv (IntKind.wrap IntKind.i64 (IntKind.wrap IntKind.i64 (16 + k) - 1)) k)) = false)
    (h2 : decide (k ≠ 0) = true)
    (h3 : decide (Int.toNat s + 0 < List.length n) = true)
    (h4 : areKinds [Kind.int IntKind.i64] [List.getD (List.getD n (Int.toNat s + 0) []) 0 AVal.any] = true)
    (h5 : decide (0 ≤ s ∧ s < (↑9 : Int)) = true)
    (h6 : decide (AVal.toInt (List.getD (List.getD n (Int.toNat s + 0) []) 0 AVal.any) < IntKind.wrap IntKind.i64 (Int.tdiv 16 k)) = false)
    (h7 : decide (s ≤ k) = true) :
    TripN Try.prog 0 (loopNo Try.f4 1) (rgE2 k s) ([AObj.rows true 32 [row], AObj.rows true 1 n]) (AExit.normal) (mkR 87 [(3, AVal.int IntKind.i64 k), (4, AVal.ptr 0 32 0 0), (6, AVal.slc false 1 1 0 9 (some 9)), (11, AVal.int IntKind.i64 (IntKind.wrap IntKind.i64 (s + 1)))]) ([AObj.rows true 32 [row], AObj.rows true 1 n]) :=
  evalT (st := St.mk (rgE2 k s) ([AObj.rows true 32 [row], AObj.rows true 1 n]) ([Dec.br true, Dec.br false, Dec.br false]) []) (st' := St.mk ([AVal.any, AVal.any, AVal.any, AVal.int IntKind.i64 k, AVal.ptr 0 32 0 0, AVal.any, AVal.slc false 1 1 0 9 (some 9), AVal.any, AVal.any, AVal.any, AVal.any, AVal.int IntKind.i64 (IntKind.wrap IntKind.i64 (s + 1)), AVal.any, AVal.any, AVal.any, AVal.any, AVal.any, AVal.any, AVal.any, AVal.any, AVal.any, AVal.any, AVal.any, AVal.any, AVal.any, AVal.any, AVal.any, AVal.any, AVal.any, AVal.any, AVal.any, AVal.any, AVal.any, AVal.any, AVal.any, AVal.any, AVal.any, AVal.any, AVal.any, AVal.any, AVal.any, AVal.any, AVal.any, AVal.any, AVal.any, AVal.any, AVal.any, AVal.any, AVal.any, AVal.any, AVal.any, AVal.any, AVal.any, AVal.any, AVal.any, AVal.int IntKind.i64 s, AVal.int IntKind.i64 k, AVal.tt true, AVal.int IntKind.i64 s, AVal.int IntKind.i64 (IntKind.wrap IntKind.i64 (s + 1)), AVal.slc false 1 1 0 9 (some 9), AVal.int IntKind.i64 s, AVal.ptr 1 1 (Int.toNat s + 0) 0, AVal.int IntKind.i64 (AVal.toInt (List.getD (List.getD n (Int.toNat s + 0) []) 0 AVal.any)), AVal.int IntKind.i64 k, AVal.int IntKind.i64 (IntKind.wrap IntKind.i64 (Int.tdiv 16 k)), AVal.bool (decide (AVal.toInt (List.getD (List.getD n (Int.toNat s + 0) []) 0 AVal.any) < IntKind.wrap IntKind.i64 (Int.tdiv 16 k))), AVal.tt false, AVal.slc false 1 1 0 9 (some 9), AVal.int IntKind.i64 s, AVal.ptr 1 1 (Int.toNat s + 0) 0, AVal.int IntKind.i64 (AVal.toInt (List.getD (List.getD n (Int.toNat s + 0) []) 0 AVal.any)), AVal.int IntKind.i64 k, AVal.int IntKind.i64 (IntKind.wrap IntKind.i64 (16 + k)), AVal.int IntKind.i64 (IntKind.wrap IntKind.i64 (IntKind.wrap IntKind.i64 (16 + k) - 1)), AVal.int IntKind.i64 k, AVal.int IntKind.i64 (IntKind.wrap IntKind.i64 (Int.tdiv (IntKind.wrap IntKind.i64 (IntKind.wrap IntKind.i64 (16 + k) - 1)) k)), AVal.bool (decide (AVal.toInt (List.getD (List.getD n (Int.toNat s + 0) []) 0 AVal.any) > IntKind.wrap IntKind.i64 (Int.tdiv (IntKind.wrap IntKind.i64 (IntKind.wrap IntKind.i64 (16 + k) - 1)) k))), AVal.tt false, AVal.any, AVal.any, AVal.any, AVal.any, AVal.any, AVal.any, AVal.any, AVal.any]) ([AObj.rows true 32 [row], AObj.rows true 1 n]) ([]) [decide (AVal.toInt (List.getD (List.getD n (Int.toNat s + 0) []) 0 AVal.any) > IntKind.wrap IntKind.i64 (Int.tdiv (IntKind.wrap IntKind.i64 (IntKind.wrap IntKind.i64 (16 + k) - 1)) k)) = false,
    true = true,
    true = true,
    true = true,
    true = true,
    true = true,
    true = true,
    decide (k ≠ 0) = true,
    true = true,
    true = true,
    true = true,
    true = true,
    true = true,
    true = true,
    true = true,
    true = true,
    true = true,
    true = true,
    decide (Int.toNat s + 0 < List.length n) = true,
    true = true,
    areKinds [Kind.int IntKind.i64] [List.getD (List.getD n (Int.toNat s + 0) []) 0 AVal.any] = true,
    true = true,
    true = true,
    decide (0 ≤ s ∧ s < (↑9 : Int)) = true,
    true = true,
    true = true,
    true = true,
    true = true,
    decide (AVal.toInt (List.getD (List.getD n (Int.toNat s + 0) []) 0 AVal.any) < IntKind.wrap IntKind.i64 (Int.tdiv 16 k)) = false,
    true = true,
    true = true,
    true = true,
    true = true,
    true = true,
    true = true,
    decide (k ≠ 0) = true,
    true = true,
    true = true,
    true = true,
    true = true,
    decide (Int.toNat s + 0 < List.length n) = true,
    true = true,
    areKinds [Kind.int IntKind.i64] [List.getD (List.getD n (Int.toNat s + 0) []) 0 AVal.any] = true,
    true = true,
    true = true,
    decide (0 ≤ s ∧ s < (↑9 : Int)) = true,
    true = true,
    true = true,
    true = true,
    true = true,
    true = true,
    decide (s ≤ k) = true]) followed (by kernel_rfl) (allP_of (⟨h1, rfl, rfl, rfl, rfl, rfl, rfl, h2, rfl, rfl, rfl, rfl, rfl, rfl, rfl, rfl, rfl, rfl, h3, rfl, h4, rfl, rfl, h5, rfl, rfl, rfl, rfl, h6, rfl, rfl, rfl, rfl, rfl, rfl, h2, rfl, rfl, rfl, rfl, h3, rfl, h4, rfl, rfl, h5, rfl, rfl, rfl, rfl, rfl, h7, trivial⟩)) (keepM 87 [3, 4, 6, 11]) ([0, 1]) (by kernel_rfl) (by kernel_rfl) (by kernel_rfl)

theorem evB_4 (row : List AVal) (n : List (List AVal)) (k : Int) (s : Int)
    (h1 : decide (s ≤ k) = false) :
    TripN Try.prog 0 (loopNo Try.f4 1) (rgE2 k s) ([AObj.rows true 32 [row], AObj.rows true 1 n]) (AExit.exit 2) (mkR 87 [(3, AVal.int IntKind.i64 k), (4, AVal.ptr 0 32 0 0), (6, AVal.slc false 1 1 0 9 (some 9)), (11, AVal.int IntKind.i64 s)]) ([AObj.rows true 32 [row], AObj.rows true 1 n]) :=
  evalT (st := St.mk (rgE2 k s) ([AObj.rows true 32 [row], AObj.rows true 1 n]) ([Dec.br false]) []) (st' := St.mk ([AVal.any, AVal.any, AVal.any, AVal.int IntKind.i64 k, AVal.ptr 0 32 0 0, AVal.any, AVal.slc false 1 1 0 9 (some 9), AVal.any, AVal.any, AVal.any, AVal.any, AVal.int IntKind.i64 s, AVal.any, AVal.any, AVal.any, AVal.any, AVal.any, AVal.any, AVal.any, AVal.any, AVal.any, AVal.any, AVal.any, AVal.any, AVal.any, AVal.any, AVal.any, AVal.any, AVal.any, AVal.any, AVal.any, AVal.any, AVal.any, AVal.any, AVal.any, AVal.any, AVal.any, AVal.any, AVal.any, AVal.any, AVal.any, AVal.any, AVal.any, AVal.any, AVal.any, AVal.any, AVal.any, AVal.any, AVal.any, AVal.any, AVal.any, AVal.any, AVal.any, AVal.any, AVal.any, AVal.int IntKind.i64 s, AVal.int IntKind.i64 k, AVal.tt false, AVal.any, AVal.any, AVal.any, AVal.any, AVal.any, AVal.any, AVal.any, AVal.any, AVal.any, AVal.any, AVal.any, AVal.any, AVal.any, AVal.any, AVal.any, AVal.any, AVal.any, AVal.any, AVal.any, AVal.any, AVal.any, AVal.any, AVal.any, AVal.any, AVal.any, AVal.any, AVal.any, AVal.any, AVal.any]) ([AObj.rows true 32 [row], AObj.rows true 1 n]) ([]) [decide (s ≤ k) = false]) followed (by kernel_rfl) (allP_of (⟨h1, trivial⟩)) (keepM 87 [3, 4, 6, 11]) ([0, 1]) (by kernel_rfl) (by kernel_rfl) (by kernel_rfl)



/-- so many groups -/
def manyG (m : Int) : Int := IntKind.wrap .i64 (1 + bits .and .i64 m 7)
theorem even_1 (m : Int) (row : List AVal) (n : List (List AVal)) (rs : List (List AVal)) (b : Bool)
    (h1 : FOk Try.prog 13 [] [] (AVal.bool true) [])
    (h2 : ((↑(List.length rs) : Int) == manyG m) = true)
    (h3 : FOk Try.prog 11 [AVal.ptr 0 32 0 0] [AObj.rows true 32 [row]] (AVal.fsl b 3 rs none) [AObj.rows true 32 [row]])
    (h4 : TripN Try.prog 0 (Code.loop (loopNo Try.f4 1)) (mkR 87 [(3, AVal.int IntKind.i64 (manyG m)), (4, AVal.ptr 0 32 0 0), (6, AVal.slc false 1 1 0 9 (some 9)), (11, AVal.int IntKind.i64 1)]) [AObj.rows true 32 [row], AObj.rows true 1 n] (AExit.exit 2) (mkR 87 [(3, AVal.int IntKind.i64 (manyG m)), (4, AVal.ptr 0 32 0 0), (6, AVal.slc false 1 1 0 9 (some 9)), (11, AVal.int IntKind.i64 (manyG m + 1))]) [AObj.rows true 32 [row], AObj.rows true 1 n])
    (h5 : TripN Try.prog 0 (Code.loop (loopNo Try.f4 0)) (mkR 87 [(3, AVal.int IntKind.i64 (IntKind.wrap IntKind.i64 (1 + bits BinOp.and IntKind.i64 m 7))), (4, AVal.ptr 0 32 0 0), (6, AVal.slc false 1 1 0 9 (some 9)), (7, AVal.int IntKind.i64 0)]) [AObj.rows true 32 [row], AObj.rows true 1 [[AVal.int IntKind.i64 0], [AVal.int IntKind.i64 0], [AVal.int IntKind.i64 0], [AVal.int IntKind.i64 0], [AVal.int IntKind.i64 0], [AVal.int IntKind.i64 0], [AVal.int IntKind.i64 0], [AVal.int IntKind.i64 0], [AVal.int IntKind.i64 0]]] (AExit.exit 0) (mkR 87 [(3, AVal.int IntKind.i64 (manyG m)), (4, AVal.ptr 0 32 0 0), (6, AVal.slc false 1 1 0 9 (some 9)), (7, AVal.int IntKind.i64 16)]) [AObj.rows true 32 [row], AObj.rows true 1 n])
    (h6 : FOk Try.prog 9 [AVal.int IntKind.i64 (IntKind.wrap IntKind.i64 (1 + bits BinOp.and IntKind.i64 m 7))] [] (AVal.tuple [AVal.ptr 0 32 0 0, AVal.int IntKind.i64 0]) [AObj.rows true 32 [row]]) :
    FOk Try.prog 4 ([AVal.int IntKind.i64 m]) ([]) (AVal.bool true) ([]) :=
  (evalF_ok followed Try.func4 (by kernel_rfl) (show evalF Try.prog Try.f4 ([AVal.int IntKind.i64 m]) ([]) ([Dec.use [] [AVal.int IntKind.i64 (IntKind.wrap IntKind.i64 (1 + bits BinOp.and IntKind.i64 m 7))] [] (AVal.tuple [AVal.ptr 0 32 0 0, AVal.int IntKind.i64 0]) [AObj.rows true 32 [row]], Dec.br false, Dec.br false, Dec.compact (keepM 87 [3, 4, 6, 7]) [0, 1], Dec.loop (AExit.exit 0) (rgE (manyG m) 16) [AObj.rows true 32 [row], AObj.rows true 1 n], Dec.compact (keepM 87 [3, 4, 6, 11]) [0, 1], Dec.loop (AExit.exit 2) (rgE2 (manyG m) (manyG m + 1)) [AObj.rows true 32 [row], AObj.rows true 1 n], Dec.use [0] [AVal.ptr 0 32 0 0] [AObj.rows true 32 [row]] (AVal.fsl b 3 rs none) [AObj.rows true 32 [row]], Dec.br true, Dec.use [] [] [] (AVal.bool true) []]) = .ok (FRes.mk (AVal.bool true) ([AObj.rows true 32 [row], AObj.rows true 1 n]) [Owed.use (owed Try.prog 0) 13 [] [] [AObj.rows true 32 [row], AObj.rows true 1 n] [] [] (AVal.bool true) [],
    ((↑(List.length rs) : Int) == manyG m) = true,
    Owed.use (owed Try.prog 0) 11 [0] [AVal.ptr 0 32 0 0] [AObj.rows true 32 [row], AObj.rows true 1 n] [AVal.ptr 0 32 0 0] [AObj.rows true 32 [row]] (AVal.fsl b 3 rs none) [AObj.rows true 32 [row]],
    Owed.loop (owed Try.prog 0) (loopNo Try.f4 1) (mkR 87 [(3, AVal.int IntKind.i64 (manyG m)), (4, AVal.ptr 0 32 0 0), (6, AVal.slc false 1 1 0 9 (some 9)), (11, AVal.int IntKind.i64 1)]) [AObj.rows true 32 [row], AObj.rows true 1 n] (AExit.exit 2) (mkR 87 [(3, AVal.int IntKind.i64 (manyG m)), (4, AVal.ptr 0 32 0 0), (6, AVal.slc false 1 1 0 9 (some 9)), (11, AVal.int IntKind.i64 (manyG m + 1))]) [AObj.rows true 32 [row], AObj.rows true 1 n],
    Owed.loop (owed Try.prog 0) (loopNo Try.f4 0) (mkR 87 [(3, AVal.int IntKind.i64 (IntKind.wrap IntKind.i64 (1 + bits BinOp.and IntKind.i64 m 7))), (4, AVal.ptr 0 32 0 0), (6, AVal.slc false 1 1 0 9 (some 9)), (7, AVal.int IntKind.i64 0)]) [AObj.rows true 32 [row], AObj.rows true 1 [[AVal.int IntKind.i64 0], [AVal.int IntKind.i64 0], [AVal.int IntKind.i64 0], [AVal.int IntKind.i64 0], [AVal.int IntKind.i64 0], [AVal.int IntKind.i64 0], [AVal.int IntKind.i64 0], [AVal.int IntKind.i64 0], [AVal.int IntKind.i64 0]]] (AExit.exit 0) (mkR 87 [(3, AVal.int IntKind.i64 (manyG m)), (4, AVal.ptr 0 32 0 0), (6, AVal.slc false 1 1 0 9 (some 9)), (7, AVal.int IntKind.i64 16)]) [AObj.rows true 32 [row], AObj.rows true 1 n],
    true = true,
    false = false,
    (0 != 0) = false,
    Owed.use (owed Try.prog 0) 9 [] [AVal.int IntKind.i64 (IntKind.wrap IntKind.i64 (1 + bits BinOp.and IntKind.i64 m 7))] [] [AVal.int IntKind.i64 (IntKind.wrap IntKind.i64 (1 + bits BinOp.and IntKind.i64 m 7))] [] (AVal.tuple [AVal.ptr 0 32 0 0, AVal.int IntKind.i64 0]) [AObj.rows true 32 [row]]]) by kernel_rfl) (allP_of (⟨⟨h1, rfl, rfl, rfl⟩, h2, ⟨h3, rfl, rfl, rfl⟩, h4, h5, rfl, rfl, rfl, ⟨h6, rfl, rfl, rfl⟩, trivial⟩))).move ([]) (by kernel_rfl) (by kernel_rfl) (by kernel_rfl)

theorem even_2 (m : Int) (row : List AVal) (n : List (List AVal)) (rs : List (List AVal)) (b : Bool)
    (h1 : ((↑(List.length rs) : Int) == manyG m) = false)
    (h2 : FOk Try.prog 11 [AVal.ptr 0 32 0 0] [AObj.rows true 32 [row]] (AVal.fsl b 3 rs none) [AObj.rows true 32 [row]])
    (h3 : TripN Try.prog 0 (Code.loop (loopNo Try.f4 1)) (mkR 87 [(3, AVal.int IntKind.i64 (manyG m)), (4, AVal.ptr 0 32 0 0), (6, AVal.slc false 1 1 0 9 (some 9)), (11, AVal.int IntKind.i64 1)]) [AObj.rows true 32 [row], AObj.rows true 1 n] (AExit.exit 2) (mkR 87 [(3, AVal.int IntKind.i64 (manyG m)), (4, AVal.ptr 0 32 0 0), (6, AVal.slc false 1 1 0 9 (some 9)), (11, AVal.int IntKind.i64 (manyG m + 1))]) [AObj.rows true 32 [row], AObj.rows true 1 n])
    (h4 : TripN Try.prog 0 (Code.loop (loopNo Try.f4 0)) (mkR 87 [(3, AVal.int IntKind.i64 (IntKind.wrap IntKind.i64 (1 + bits BinOp.and IntKind.i64 m 7))), (4, AVal.ptr 0 32 0 0), (6, AVal.slc false 1 1 0 9 (some 9)), (7, AVal.int IntKind.i64 0)]) [AObj.rows true 32 [row], AObj.rows true 1 [[AVal.int IntKind.i64 0], [AVal.int IntKind.i64 0], [AVal.int IntKind.i64 0], [AVal.int IntKind.i64 0], [AVal.int IntKind.i64 0], [AVal.int IntKind.i64 0], [AVal.int IntKind.i64 0], [AVal.int IntKind.i64 0], [AVal.int IntKind.i64 0]]] (AExit.exit 0) (mkR 87 [(3, AVal.int IntKind.i64 (manyG m)), (4, AVal.ptr 0 32 0 0), (6, AVal.slc false 1 1 0 9 (some 9)), (7, AVal.int IntKind.i64 16)]) [AObj.rows true 32 [row], AObj.rows true 1 n])
    (h5 : FOk Try.prog 9 [AVal.int IntKind.i64 (IntKind.wrap IntKind.i64 (1 + bits BinOp.and IntKind.i64 m 7))] [] (AVal.tuple [AVal.ptr 0 32 0 0, AVal.int IntKind.i64 0]) [AObj.rows true 32 [row]]) :
    FOk Try.prog 4 ([AVal.int IntKind.i64 m]) ([]) (AVal.bool false) ([]) :=
  (evalF_ok followed Try.func4 (by kernel_rfl) (show evalF Try.prog Try.f4 ([AVal.int IntKind.i64 m]) ([]) ([Dec.use [] [AVal.int IntKind.i64 (IntKind.wrap IntKind.i64 (1 + bits BinOp.and IntKind.i64 m 7))] [] (AVal.tuple [AVal.ptr 0 32 0 0, AVal.int IntKind.i64 0]) [AObj.rows true 32 [row]], Dec.br false, Dec.br false, Dec.compact (keepM 87 [3, 4, 6, 7]) [0, 1], Dec.loop (AExit.exit 0) (rgE (manyG m) 16) [AObj.rows true 32 [row], AObj.rows true 1 n], Dec.compact (keepM 87 [3, 4, 6, 11]) [0, 1], Dec.loop (AExit.exit 2) (rgE2 (manyG m) (manyG m + 1)) [AObj.rows true 32 [row], AObj.rows true 1 n], Dec.use [0] [AVal.ptr 0 32 0 0] [AObj.rows true 32 [row]] (AVal.fsl b 3 rs none) [AObj.rows true 32 [row]], Dec.br false]) = .ok (FRes.mk (AVal.bool false) ([AObj.rows true 32 [row], AObj.rows true 1 n]) [((↑(List.length rs) : Int) == manyG m) = false,
    Owed.use (owed Try.prog 0) 11 [0] [AVal.ptr 0 32 0 0] [AObj.rows true 32 [row], AObj.rows true 1 n] [AVal.ptr 0 32 0 0] [AObj.rows true 32 [row]] (AVal.fsl b 3 rs none) [AObj.rows true 32 [row]],
    Owed.loop (owed Try.prog 0) (loopNo Try.f4 1) (mkR 87 [(3, AVal.int IntKind.i64 (manyG m)), (4, AVal.ptr 0 32 0 0), (6, AVal.slc false 1 1 0 9 (some 9)), (11, AVal.int IntKind.i64 1)]) [AObj.rows true 32 [row], AObj.rows true 1 n] (AExit.exit 2) (mkR 87 [(3, AVal.int IntKind.i64 (manyG m)), (4, AVal.ptr 0 32 0 0), (6, AVal.slc false 1 1 0 9 (some 9)), (11, AVal.int IntKind.i64 (manyG m + 1))]) [AObj.rows true 32 [row], AObj.rows true 1 n],
    Owed.loop (owed Try.prog 0) (loopNo Try.f4 0) (mkR 87 [(3, AVal.int IntKind.i64 (IntKind.wrap IntKind.i64 (1 + bits BinOp.and IntKind.i64 m 7))), (4, AVal.ptr 0 32 0 0), (6, AVal.slc false 1 1 0 9 (some 9)), (7, AVal.int IntKind.i64 0)]) [AObj.rows true 32 [row], AObj.rows true 1 [[AVal.int IntKind.i64 0], [AVal.int IntKind.i64 0], [AVal.int IntKind.i64 0], [AVal.int IntKind.i64 0], [AVal.int IntKind.i64 0], [AVal.int IntKind.i64 0], [AVal.int IntKind.i64 0], [AVal.int IntKind.i64 0], [AVal.int IntKind.i64 0]]] (AExit.exit 0) (mkR 87 [(3, AVal.int IntKind.i64 (manyG m)), (4, AVal.ptr 0 32 0 0), (6, AVal.slc false 1 1 0 9 (some 9)), (7, AVal.int IntKind.i64 16)]) [AObj.rows true 32 [row], AObj.rows true 1 n],
    true = true,
    false = false,
    (0 != 0) = false,
    Owed.use (owed Try.prog 0) 9 [] [AVal.int IntKind.i64 (IntKind.wrap IntKind.i64 (1 + bits BinOp.and IntKind.i64 m 7))] [] [AVal.int IntKind.i64 (IntKind.wrap IntKind.i64 (1 + bits BinOp.and IntKind.i64 m 7))] [] (AVal.tuple [AVal.ptr 0 32 0 0, AVal.int IntKind.i64 0]) [AObj.rows true 32 [row]]]) by kernel_rfl) (allP_of (⟨h1, ⟨h2, rfl, rfl, rfl⟩, h3, h4, rfl, rfl, rfl, ⟨h5, rfl, rfl, rfl⟩, trivial⟩))).move ([]) (by kernel_rfl) (by kernel_rfl) (by kernel_rfl)


end Go.L10

import Derived.Test.YtchomggcjicokaaProg
import Derived.Test.YtchomggcjicokaaAbsRow
set_option linter.unusedVariables false
set_option maxRecDepth 100000
namespace Go.L10
open Go Go.Abs Go.Proofs
instance : Glob := noGlob

theorem followed : Try.prog.follows .mixedOrders = true := by kernel_rfl

theorem inr_1 (n : Int) (a : Int) (b : Int)
    (h1 : decide (n ≥ a) = true) :
    FOk Try.prog 20 ([AVal.int IntKind.i64 n, AVal.int IntKind.i64 a, AVal.int IntKind.i64 b]) ([]) (AVal.bool (decide (n ≤ b))) ([]) :=
  (evalF_ok followed Try.func20 (by kernel_rfl) (show evalF Try.prog Try.f20 ([AVal.int IntKind.i64 n, AVal.int IntKind.i64 a, AVal.int IntKind.i64 b]) ([]) ([Dec.br true]) = .ok (FRes.mk (AVal.bool (decide (n ≤ b))) ([]) [decide (n ≥ a) = true]) by kernel_rfl) (allP_of (⟨h1, trivial⟩))).move ([]) (by kernel_rfl) (by kernel_rfl) (by kernel_rfl)

theorem inr_2 (n : Int) (a : Int) (b : Int)
    (h1 : decide (n ≥ a) = false) :
    FOk Try.prog 20 ([AVal.int IntKind.i64 n, AVal.int IntKind.i64 a, AVal.int IntKind.i64 b]) ([]) (AVal.bool false) ([]) :=
  (evalF_ok followed Try.func20 (by kernel_rfl) (show evalF Try.prog Try.f20 ([AVal.int IntKind.i64 n, AVal.int IntKind.i64 a, AVal.int IntKind.i64 b]) ([]) ([Dec.br false]) = .ok (FRes.mk (AVal.bool false) ([]) [decide (n ≥ a) = false]) by kernel_rfl) (allP_of (⟨h1, trivial⟩))).move ([]) (by kernel_rfl) (by kernel_rfl) (by kernel_rfl)


theorem given_1 (row : List AVal)
    (h1 : areKinds [Kind.int IntKind.i64] [List.getD row 0 AVal.any] = true) :
    FOk Try.prog 21 ([AVal.ptr 0 32 0 0]) ([AObj.rows true 32 [row]]) (AVal.bool (decide (AVal.toInt (List.getD row 0 AVal.any) > 0))) ([AObj.rows true 32 [row]]) :=
  (evalF_ok followed Try.func21 (by kernel_rfl) (show evalF Try.prog Try.f21 ([AVal.ptr 0 32 0 0]) ([AObj.rows true 32 [row]]) ([Dec.br true]) = .ok (FRes.mk (AVal.bool (decide (AVal.toInt (List.getD row 0 AVal.any) > 0))) ([AObj.rows true 32 [row]]) [true = true,
    true = true,
    areKinds [Kind.int IntKind.i64] [List.getD row 0 AVal.any] = true,
    true = true,
    (!false) = true]) by kernel_rfl) (allP_of (⟨rfl, rfl, h1, rfl, rfl, trivial⟩))).move ([0]) (by kernel_rfl) (by kernel_rfl) (by kernel_rfl)


theorem new_1 (n : Int) (b : Bool)
    (h1 : (!b) = true)
    (h2 : FOk Try.prog 20 [AVal.int IntKind.i64 n, AVal.int IntKind.i64 1, AVal.int IntKind.i64 8] [] (AVal.bool b) []) :
    FOk Try.prog 9 ([AVal.int IntKind.i64 n]) ([]) (AVal.tuple [AVal.nilp, AVal.int IntKind.i64 1]) ([]) :=
  (evalF_ok followed Try.func9 (by kernel_rfl) (show evalF Try.prog Try.f9 ([AVal.int IntKind.i64 n]) ([]) ([Dec.use [] [AVal.int IntKind.i64 n, AVal.int IntKind.i64 1, AVal.int IntKind.i64 8] [] (AVal.bool b) [], Dec.br true]) = .ok (FRes.mk (AVal.tuple [AVal.nilp, AVal.int IntKind.i64 1]) ([]) [(!b) = true,
    Owed.use (owed Try.prog 0) 20 [] [AVal.int IntKind.i64 n, AVal.int IntKind.i64 1, AVal.int IntKind.i64 8] [] [AVal.int IntKind.i64 n, AVal.int IntKind.i64 1, AVal.int IntKind.i64 8] [] (AVal.bool b) []]) by kernel_rfl) (allP_of (⟨h1, ⟨h2, rfl, rfl, rfl⟩, trivial⟩))).move ([]) (by kernel_rfl) (by kernel_rfl) (by kernel_rfl)

theorem new_2 (n : Int) (b : Bool)
    (h1 : (!b) = false)
    (h2 : FOk Try.prog 20 [AVal.int IntKind.i64 n, AVal.int IntKind.i64 1, AVal.int IntKind.i64 8] [] (AVal.bool b) []) :
    FOk Try.prog 9 ([AVal.int IntKind.i64 n]) ([]) (AVal.tuple [AVal.ptr 0 32 0 0, AVal.int IntKind.i64 0]) ([AObj.rows true 32 [[AVal.int IntKind.i64 (IntKind.wrap IntKind.i64 (1 + IntKind.wrap IntKind.i64 (Int.tdiv (IntKind.wrap IntKind.i64 (0 * n)) 16))), AVal.int IntKind.i64 1, AVal.int IntKind.i64 (IntKind.wrap IntKind.i64 (1 + IntKind.wrap IntKind.i64 (Int.tdiv (IntKind.wrap IntKind.i64 (IntKind.wrap IntKind.i64 (0 + 1) * n)) 16))), AVal.int IntKind.i64 1, AVal.int IntKind.i64 (IntKind.wrap IntKind.i64 (1 + IntKind.wrap IntKind.i64 (Int.tdiv (IntKind.wrap IntKind.i64 (IntKind.wrap IntKind.i64 (IntKind.wrap IntKind.i64 (0 + 1) + 1) * n)) 16))), AVal.int IntKind.i64 1, AVal.int IntKind.i64 (IntKind.wrap IntKind.i64 (1 + IntKind.wrap IntKind.i64 (Int.tdiv (IntKind.wrap IntKind.i64 (IntKind.wrap IntKind.i64 (IntKind.wrap IntKind.i64 (IntKind.wrap IntKind.i64 (0 + 1) + 1) + 1) * n)) 16))), AVal.int IntKind.i64 1, AVal.int IntKind.i64 (IntKind.wrap IntKind.i64 (1 + IntKind.wrap IntKind.i64 (Int.tdiv (IntKind.wrap IntKind.i64 (IntKind.wrap IntKind.i64 (IntKind.wrap IntKind.i64 (IntKind.wrap IntKind.i64 (IntKind.wrap IntKind.i64 (0 + 1) + 1) + 1) + 1) * n)) 16))), AVal.int IntKind.i64 1, AVal.int IntKind.i64 (IntKind.wrap IntKind.i64 (1 + IntKind.wrap IntKind.i64 (Int.tdiv (IntKind.wrap IntKind.i64 (IntKind.wrap IntKind.i64 (IntKind.wrap IntKind.i64 (IntKind.wrap IntKind.i64 (IntKind.wrap IntKind.i64 (IntKind.wrap IntKind.i64 (0 + 1) + 1) + 1) + 1) + 1) * n)) 16))), AVal.int IntKind.i64 1, AVal.int IntKind.i64 (IntKind.wrap IntKind.i64 (1 + IntKind.wrap IntKind.i64 (Int.tdiv (IntKind.wrap IntKind.i64 (IntKind.wrap IntKind.i64 (IntKind.wrap IntKind.i64 (IntKind.wrap IntKind.i64 (IntKind.wrap IntKind.i64 (IntKind.wrap IntKind.i64 (IntKind.wrap IntKind.i64 (0 + 1) + 1) + 1) + 1) + 1) + 1) * n)) 16))), AVal.int IntKind.i64 1, AVal.int IntKind.i64 (IntKind.wrap IntKind.i64 (1 + IntKind.wrap IntKind.i64 (Int.tdiv (IntKind.wrap IntKind.i64 (IntKind.wrap IntKind.i64 (IntKind.wrap IntKind.i64 (IntKind.wrap IntKind.i64 (IntKind.wrap IntKind.i64 (IntKind.wrap IntKind.i64 (IntKind.wrap IntKind.i64 (IntKind.wrap IntKind.i64 (0 + 1) + 1) + 1) + 1) + 1) + 1) + 1) * n)) 16))), AVal.int IntKind.i64 1, AVal.int IntKind.i64 (IntKind.wrap IntKind.i64 (1 + IntKind.wrap IntKind.i64 (Int.tdiv (IntKind.wrap IntKind.i64 (IntKind.wrap IntKind.i64 (IntKind.wrap IntKind.i64 (IntKind.wrap IntKind.i64 (IntKind.wrap IntKind.i64 (IntKind.wrap IntKind.i64 (IntKind.wrap IntKind.i64 (IntKind.wrap IntKind.i64 (IntKind.wrap IntKind.i64 (0 + 1) + 1) + 1) + 1) + 1) + 1) + 1) + 1) * n)) 16))), AVal.int IntKind.i64 1, AVal.int IntKind.i64 (IntKind.wrap IntKind.i64 (1 + IntKind.wrap IntKind.i64 (Int.tdiv (IntKind.wrap IntKind.i64 (IntKind.wrap IntKind.i64 (IntKind.wrap IntKind.i64 (IntKind.wrap IntKind.i64 (IntKind.wrap IntKind.i64 (IntKind.wrap IntKind.i64 (IntKind.wrap IntKind.i64 (IntKind.wrap IntKind.i64 (IntKind.wrap IntKind.i64 (IntKind.wrap IntKind.i64 (0 + 1) + 1) + 1) + 1) + 1) + 1) + 1) + 1) + 1) * n)) 16))), AVal.int IntKind.i64 1, AVal.int IntKind.i64 (IntKind.wrap IntKind.i64 (1 + IntKind.wrap IntKind.i64 (Int.tdiv (IntKind.wrap IntKind.i64 (IntKind.wrap IntKind.i64 (IntKind.wrap IntKind.i64 (IntKind.wrap IntKind.i64 (IntKind.wrap IntKind.i64 (IntKind.wrap IntKind.i64 (IntKind.wrap IntKind.i64 (IntKind.wrap IntKind.i64 (IntKind.wrap IntKind.i64 (IntKind.wrap IntKind.i64 (IntKind.wrap IntKind.i64 (0 + 1) + 1) + 1) + 1) + 1) + 1) + 1) + 1) + 1) + 1) * n)) 16))), AVal.int IntKind.i64 1, AVal.int IntKind.i64 (IntKind.wrap IntKind.i64 (1 + IntKind.wrap IntKind.i64 (Int.tdiv (IntKind.wrap IntKind.i64 (IntKind.wrap IntKind.i64 (IntKind.wrap IntKind.i64 (IntKind.wrap IntKind.i64 (IntKind.wrap IntKind.i64 (IntKind.wrap IntKind.i64 (IntKind.wrap IntKind.i64 (IntKind.wrap IntKind.i64 (IntKind.wrap IntKind.i64 (IntKind.wrap IntKind.i64 (IntKind.wrap IntKind.i64 (IntKind.wrap IntKind.i64 (0 + 1) + 1) + 1) + 1) + 1) + 1) + 1) + 1) + 1) + 1) + 1) * n)) 16))), AVal.int IntKind.i64 1, AVal.int IntKind.i64 (IntKind.wrap IntKind.i64 (1 + IntKind.wrap IntKind.i64 (Int.tdiv (IntKind.wrap IntKind.i64 (IntKind.wrap IntKind.i64 (IntKind.wrap IntKind.i64 (IntKind.wrap IntKind.i64 (IntKind.wrap IntKind.i64 (IntKind.wrap IntKind.i64 (IntKind.wrap IntKind.i64 (IntKind.wrap IntKind.i64 (IntKind.wrap IntKind.i64 (IntKind.wrap IntKind.i64 (IntKind.wrap IntKind.i64 (IntKind.wrap IntKind.i64 (IntKind.wrap IntKind.i64 (0 + 1) + 1) + 1) + 1) + 1) + 1) + 1) + 1) + 1) + 1) + 1) + 1) * n)) 16))), AVal.int IntKind.i64 1, AVal.int IntKind.i64 (IntKind.wrap IntKind.i64 (1 + IntKind.wrap IntKind.i64 (Int.tdiv (IntKind.wrap IntKind.i64 (IntKind.wrap IntKind.i64 (IntKind.wrap IntKind.i64 (IntKind.wrap IntKind.i64 (IntKind.wrap IntKind.i64 (IntKind.wrap IntKind.i64 (IntKind.wrap IntKind.i64 (IntKind.wrap IntKind.i64 (IntKind.wrap IntKind.i64 (IntKind.wrap IntKind.i64 (IntKind.wrap IntKind.i64 (IntKind.wrap IntKind.i64 (IntKind.wrap IntKind.i64 (IntKind.wrap IntKind.i64 (0 + 1) + 1) + 1) + 1) + 1) + 1) + 1) + 1) + 1) + 1) + 1) + 1) + 1) * n)) 16))), AVal.int IntKind.i64 1, AVal.int IntKind.i64 (IntKind.wrap IntKind.i64 (1 + IntKind.wrap IntKind.i64 (Int.tdiv (IntKind.wrap IntKind.i64 (IntKind.wrap IntKind.i64 (IntKind.wrap IntKind.i64 (IntKind.wrap IntKind.i64 (IntKind.wrap IntKind.i64 (IntKind.wrap IntKind.i64 (IntKind.wrap IntKind.i64 (IntKind.wrap IntKind.i64 (IntKind.wrap IntKind.i64 (IntKind.wrap IntKind.i64 (IntKind.wrap IntKind.i64 (IntKind.wrap IntKind.i64 (IntKind.wrap IntKind.i64 (IntKind.wrap IntKind.i64 (IntKind.wrap IntKind.i64 (0 + 1) + 1) + 1) + 1) + 1) + 1) + 1) + 1) + 1) + 1) + 1) + 1) + 1) + 1) * n)) 16))), AVal.int IntKind.i64 1, AVal.int IntKind.i64 (IntKind.wrap IntKind.i64 (1 + IntKind.wrap IntKind.i64 (Int.tdiv (IntKind.wrap IntKind.i64 (IntKind.wrap IntKind.i64 (IntKind.wrap IntKind.i64 (IntKind.wrap IntKind.i64 (IntKind.wrap IntKind.i64 (IntKind.wrap IntKind.i64 (IntKind.wrap IntKind.i64 (IntKind.wrap IntKind.i64 (IntKind.wrap IntKind.i64 (IntKind.wrap IntKind.i64 (IntKind.wrap IntKind.i64 (IntKind.wrap IntKind.i64 (IntKind.wrap IntKind.i64 (IntKind.wrap IntKind.i64 (IntKind.wrap IntKind.i64 (IntKind.wrap IntKind.i64 (0 + 1) + 1) + 1) + 1) + 1) + 1) + 1) + 1) + 1) + 1) + 1) + 1) + 1) + 1) + 1) * n)) 16))), AVal.int IntKind.i64 1]]]) :=
  (evalF_ok followed Try.func9 (by kernel_rfl) (show evalF Try.prog Try.f9 ([AVal.int IntKind.i64 n]) ([]) ([Dec.use [] [AVal.int IntKind.i64 n, AVal.int IntKind.i64 1, AVal.int IntKind.i64 8] [] (AVal.bool b) [], Dec.br false, Dec.unroll 20, Dec.br true, Dec.br true, Dec.br true, Dec.br true, Dec.br true, Dec.br true, Dec.br true, Dec.br true, Dec.br true, Dec.br true, Dec.br true, Dec.br true, Dec.br true, Dec.br true, Dec.br true, Dec.br true, Dec.br false]) = .ok (FRes.mk (AVal.tuple [AVal.ptr 0 32 0 0, AVal.int IntKind.i64 0]) ([AObj.rows true 32 [[AVal.int IntKind.i64 (IntKind.wrap IntKind.i64 (1 + IntKind.wrap IntKind.i64 (Int.tdiv (IntKind.wrap IntKind.i64 (0 * n)) 16))), AVal.int IntKind.i64 1, AVal.int IntKind.i64 (IntKind.wrap IntKind.i64 (1 + IntKind.wrap IntKind.i64 (Int.tdiv (IntKind.wrap IntKind.i64 (IntKind.wrap IntKind.i64 (0 + 1) * n)) 16))), AVal.int IntKind.i64 1, AVal.int IntKind.i64 (IntKind.wrap IntKind.i64 (1 + IntKind.wrap IntKind.i64 (Int.tdiv (IntKind.wrap IntKind.i64 (IntKind.wrap IntKind.i64 (IntKind.wrap IntKind.i64 (0 + 1) + 1) * n)) 16))), AVal.int IntKind.i64 1, AVal.int IntKind.i64 (IntKind.wrap IntKind.i64 (1 + IntKind.wrap IntKind.i64 (Int.tdiv (IntKind.wrap IntKind.i64 (IntKind.wrap IntKind.i64 (IntKind.wrap IntKind.i64 (IntKind.wrap IntKind.i64 (0 + 1) + 1) + 1) * n)) 16))), AVal.int IntKind.i64 1, AVal.int IntKind.i64 (IntKind.wrap IntKind.i64 (1 + IntKind.wrap IntKind.i64 (Int.tdiv (IntKind.wrap IntKind.i64 (IntKind.wrap IntKind.i64 (IntKind.wrap IntKind.i64 (IntKind.wrap IntKind.i64 (IntKind.wrap IntKind.i64 (0 + 1) + 1) + 1) + 1) * n)) 16))), AVal.int IntKind.i64 1, AVal.int IntKind.i64 (IntKind.wrap IntKind.i64 (1 + IntKind.wrap IntKind.i64 (Int.tdiv (IntKind.wrap IntKind.i64 (IntKind.wrap IntKind.i64 (IntKind.wrap IntKind.i64 (IntKind.wrap IntKind.i64 (IntKind.wrap IntKind.i64 (IntKind.wrap IntKind.i64 (0 + 1) + 1) + 1) + 1) + 1) * n)) 16))), AVal.int IntKind.i64 1, AVal.int IntKind.i64 (IntKind.wrap IntKind.i64 (1 + IntKind.wrap IntKind.i64 (Int.tdiv (IntKind.wrap IntKind.i64 (IntKind.wrap IntKind.i64 (IntKind.wrap IntKind.i64 (IntKind.wrap IntKind.i64 (IntKind.wrap IntKind.i64 (IntKind.wrap IntKind.i64 (IntKind.wrap IntKind.i64 (0 + 1) + 1) + 1) + 1) + 1) + 1) * n)) 16))), AVal.int IntKind.i64 1, AVal.int IntKind.i64 (IntKind.wrap IntKind.i64 (1 + IntKind.wrap IntKind.i64 (Int.tdiv (IntKind.wrap IntKind.i64 (IntKind.wrap IntKind.i64 (IntKind.wrap IntKind.i64 (IntKind.wrap IntKind.i64 (IntKind.wrap IntKind.i64 (IntKind.wrap IntKind.i64 (IntKind.wrap IntKind.i64 (IntKind.wrap IntKind.i64 (0 + 1) + 1) + 1) + 1) + 1) + 1) + 1) * n)) 16))), AVal.int IntKind.i64 1, AVal.int IntKind.i64 (IntKind.wrap IntKind.i64 (1 + IntKind.wrap IntKind.i64 (Int.tdiv (IntKind.wrap IntKind.i64 (IntKind.wrap IntKind.i64 (IntKind.wrap IntKind.i64 (IntKind.wrap IntKind.i64 (IntKind.wrap IntKind.i64 (IntKind.wrap IntKind.i64 (IntKind.wrap IntKind.i64 (IntKind.wrap IntKind.i64 (IntKind.wrap IntKind.i64 (0 + 1) + 1) + 1) + 1) + 1) + 1) + 1) + 1) * n)) 16))), AVal.int IntKind.i64 1, AVal.int IntKind.i64 (IntKind.wrap IntKind.i64 (1 + IntKind.wrap IntKind.i64 (Int.tdiv (IntKind.wrap IntKind.i64 (IntKind.wrap IntKind.i64 (IntKind.wrap IntKind.i64 (IntKind.wrap IntKind.i64 (IntKind.wrap IntKind.i64 (IntKind.wrap IntKind.i64 (IntKind.wrap IntKind.i64 (IntKind.wrap IntKind.i64 (IntKind.wrap IntKind.i64 (IntKind.wrap IntKind.i64 (0 + 1) + 1) + 1) + 1) + 1) + 1) + 1) + 1) + 1) * n)) 16))), AVal.int IntKind.i64 1, AVal.int IntKind.i64 (IntKind.wrap IntKind.i64 (1 + IntKind.wrap IntKind.i64 (Int.tdiv (IntKind.wrap IntKind.i64 (IntKind.wrap IntKind.i64 (IntKind.wrap IntKind.i64 (IntKind.wrap IntKind.i64 (IntKind.wrap IntKind.i64 (IntKind.wrap IntKind.i64 (IntKind.wrap IntKind.i64 (IntKind.wrap IntKind.i64 (IntKind.wrap IntKind.i64 (IntKind.wrap IntKind.i64 (IntKind.wrap IntKind.i64 (0 + 1) + 1) + 1) + 1) + 1) + 1) + 1) + 1) + 1) + 1) * n)) 16))), AVal.int IntKind.i64 1, AVal.int IntKind.i64 (IntKind.wrap IntKind.i64 (1 + IntKind.wrap IntKind.i64 (Int.tdiv (IntKind.wrap IntKind.i64 (IntKind.wrap IntKind.i64 (IntKind.wrap IntKind.i64 (IntKind.wrap IntKind.i64 (IntKind.wrap IntKind.i64 (IntKind.wrap IntKind.i64 (IntKind.wrap IntKind.i64 (IntKind.wrap IntKind.i64 (IntKind.wrap IntKind.i64 (IntKind.wrap IntKind.i64 (IntKind.wrap IntKind.i64 (IntKind.wrap IntKind.i64 (0 + 1) + 1) + 1) + 1) + 1) + 1) + 1) + 1) + 1) + 1) + 1) * n)) 16))), AVal.int IntKind.i64 1, AVal.int IntKind.i64 (IntKind.wrap IntKind.i64 (1 + IntKind.wrap IntKind.i64 (Int.tdiv (IntKind.wrap IntKind.i64 (IntKind.wrap IntKind.i64 (IntKind.wrap IntKind.i64 (IntKind.wrap IntKind.i64 (IntKind.wrap IntKind.i64 (IntKind.wrap IntKind.i64 (IntKind.wrap IntKind.i64 (IntKind.wrap IntKind.i64 (IntKind.wrap IntKind.i64 (IntKind.wrap IntKind.i64 (IntKind.wrap IntKind.i64 (IntKind.wrap IntKind.i64 (IntKind.wrap IntKind.i64 (0 + 1) + 1) + 1) + 1) + 1) + 1) + 1) + 1) + 1) + 1) + 1) + 1) * n)) 16))), AVal.int IntKind.i64 1, AVal.int IntKind.i64 (IntKind.wrap IntKind.i64 (1 + IntKind.wrap IntKind.i64 (Int.tdiv (IntKind.wrap IntKind.i64 (IntKind.wrap IntKind.i64 (IntKind.wrap IntKind.i64 (IntKind.wrap IntKind.i64 (IntKind.wrap IntKind.i64 (IntKind.wrap IntKind.i64 (IntKind.wrap IntKind.i64 (IntKind.wrap IntKind.i64 (IntKind.wrap IntKind.i64 (IntKind.wrap IntKind.i64 (IntKind.wrap IntKind.i64 (IntKind.wrap IntKind.i64 (IntKind.wrap IntKind.i64 (IntKind.wrap IntKind.i64 (0 + 1) + 1) + 1) + 1) + 1) + 1) + 1) + 1) + 1) + 1) + 1) + 1) + 1) * n)) 16))), AVal.int IntKind.i64 1, AVal.int IntKind.i64 (IntKind.wrap IntKind.i64 (1 + IntKind.wrap IntKind.i64 (Int.tdiv (IntKind.wrap IntKind.i64 (IntKind.wrap IntKind.i64 (IntKind.wrap IntKind.i64 (IntKind.wrap IntKind.i64 (IntKind.wrap IntKind.i64 (IntKind.wrap IntKind.i64 (IntKind.wrap IntKind.i64 (IntKind.wrap IntKind.i64 (IntKind.wrap IntKind.i64 (IntKind.wrap IntKind.i64 (IntKind.wrap IntKind.i64 (IntKind.wrap IntKind.i64 (IntKind.wrap IntKind.i64 (IntKind.wrap IntKind.i64 (IntKind.wrap IntKind.i64 (0 + 1) + 1) + 1) + 1) + 1) + 1) + 1) + 1) + 1) + 1) + 1) + 1) + 1) + 1) * n)) 16))), AVal.int IntKind.i64 1, AVal.int IntKind.i64 (IntKind.wrap IntKind.i64 (1 + IntKind.wrap IntKind.i64 (Int.tdiv (IntKind.wrap IntKind.i64 (IntKind.wrap IntKind.i64 (IntKind.wrap IntKind.i64 (IntKind.wrap IntKind.i64 (IntKind.wrap IntKind.i64 (IntKind.wrap IntKind.i64 (IntKind.wrap IntKind.i64 (IntKind.wrap IntKind.i64 (IntKind.wrap IntKind.i64 (IntKind.wrap IntKind.i64 (IntKind.wrap IntKind.i64 (IntKind.wrap IntKind.i64 (IntKind.wrap IntKind.i64 (IntKind.wrap IntKind.i64 (IntKind.wrap IntKind.i64 (IntKind.wrap IntKind.i64 (0 + 1) + 1) + 1) + 1) + 1) + 1) + 1) + 1) + 1) + 1) + 1) + 1) + 1) + 1) + 1) * n)) 16))), AVal.int IntKind.i64 1]]]) [decide (IntKind.wrap IntKind.i64 (IntKind.wrap IntKind.i64 (IntKind.wrap IntKind.i64 (IntKind.wrap IntKind.i64 (IntKind.wrap IntKind.i64 (IntKind.wrap IntKind.i64 (IntKind.wrap IntKind.i64 (IntKind.wrap IntKind.i64 (IntKind.wrap IntKind.i64 (IntKind.wrap IntKind.i64 (IntKind.wrap IntKind.i64 (IntKind.wrap IntKind.i64 (IntKind.wrap IntKind.i64 (IntKind.wrap IntKind.i64 (IntKind.wrap IntKind.i64 (IntKind.wrap IntKind.i64 (0 + 1) + 1) + 1) + 1) + 1) + 1) + 1) + 1) + 1) + 1) + 1) + 1) + 1) + 1) + 1) + 1) < 16) = false,
    true = true,
    true = true,
    true = true,
    true = true,
    decide (IntKind.wrap IntKind.i64 (IntKind.wrap IntKind.i64 (IntKind.wrap IntKind.i64 (IntKind.wrap IntKind.i64 (IntKind.wrap IntKind.i64 (IntKind.wrap IntKind.i64 (IntKind.wrap IntKind.i64 (IntKind.wrap IntKind.i64 (IntKind.wrap IntKind.i64 (IntKind.wrap IntKind.i64 (IntKind.wrap IntKind.i64 (IntKind.wrap IntKind.i64 (IntKind.wrap IntKind.i64 (IntKind.wrap IntKind.i64 (IntKind.wrap IntKind.i64 (0 + 1) + 1) + 1) + 1) + 1) + 1) + 1) + 1) + 1) + 1) + 1) + 1) + 1) + 1) + 1) < 16) = true,
    true = true,
    true = true,
    true = true,
    true = true,
    decide (IntKind.wrap IntKind.i64 (IntKind.wrap IntKind.i64 (IntKind.wrap IntKind.i64 (IntKind.wrap IntKind.i64 (IntKind.wrap IntKind.i64 (IntKind.wrap IntKind.i64 (IntKind.wrap IntKind.i64 (IntKind.wrap IntKind.i64 (IntKind.wrap IntKind.i64 (IntKind.wrap IntKind.i64 (IntKind.wrap IntKind.i64 (IntKind.wrap IntKind.i64 (IntKind.wrap IntKind.i64 (IntKind.wrap IntKind.i64 (0 + 1) + 1) + 1) + 1) + 1) + 1) + 1) + 1) + 1) + 1) + 1) + 1) + 1) + 1) < 16) = true,
    true = true,
    true = true,
    true = true,
    true = true,
    decide (IntKind.wrap IntKind.i64 (IntKind.wrap IntKind.i64 (IntKind.wrap IntKind.i64 (IntKind.wrap IntKind.i64 (IntKind.wrap IntKind.i64 (IntKind.wrap IntKind.i64 (IntKind.wrap IntKind.i64 (IntKind.wrap IntKind.i64 (IntKind.wrap IntKind.i64 (IntKind.wrap IntKind.i64 (IntKind.wrap IntKind.i64 (IntKind.wrap IntKind.i64 (IntKind.wrap IntKind.i64 (0 + 1) + 1) + 1) + 1) + 1) + 1) + 1) + 1) + 1) + 1) + 1) + 1) + 1) < 16) = true,
    true = true,
    true = true,
    true = true,
    true = true,
    decide (IntKind.wrap IntKind.i64 (IntKind.wrap IntKind.i64 (IntKind.wrap IntKind.i64 (IntKind.wrap IntKind.i64 (IntKind.wrap IntKind.i64 (IntKind.wrap IntKind.i64 (IntKind.wrap IntKind.i64 (IntKind.wrap IntKind.i64 (IntKind.wrap IntKind.i64 (IntKind.wrap IntKind.i64 (IntKind.wrap IntKind.i64 (IntKind.wrap IntKind.i64 (0 + 1) + 1) + 1) + 1) + 1) + 1) + 1) + 1) + 1) + 1) + 1) + 1) < 16) = true,
    true = true,
    true = true,
    true = true,
    true = true,
    decide (IntKind.wrap IntKind.i64 (IntKind.wrap IntKind.i64 (IntKind.wrap IntKind.i64 (IntKind.wrap IntKind.i64 (IntKind.wrap IntKind.i64 (IntKind.wrap IntKind.i64 (IntKind.wrap IntKind.i64 (IntKind.wrap IntKind.i64 (IntKind.wrap IntKind.i64 (IntKind.wrap IntKind.i64 (IntKind.wrap IntKind.i64 (0 + 1) + 1) + 1) + 1) + 1) + 1) + 1) + 1) + 1) + 1) + 1) < 16) = true,
    true = true,
    true = true,
    true = true,
    true = true,
    decide (IntKind.wrap IntKind.i64 (IntKind.wrap IntKind.i64 (IntKind.wrap IntKind.i64 (IntKind.wrap IntKind.i64 (IntKind.wrap IntKind.i64 (IntKind.wrap IntKind.i64 (IntKind.wrap IntKind.i64 (IntKind.wrap IntKind.i64 (IntKind.wrap IntKind.i64 (IntKind.wrap IntKind.i64 (0 + 1) + 1) + 1) + 1) + 1) + 1) + 1) + 1) + 1) + 1) < 16) = true,
    true = true,
    true = true,
    true = true,
    true = true,
    decide (IntKind.wrap IntKind.i64 (IntKind.wrap IntKind.i64 (IntKind.wrap IntKind.i64 (IntKind.wrap IntKind.i64 (IntKind.wrap IntKind.i64 (IntKind.wrap IntKind.i64 (IntKind.wrap IntKind.i64 (IntKind.wrap IntKind.i64 (IntKind.wrap IntKind.i64 (0 + 1) + 1) + 1) + 1) + 1) + 1) + 1) + 1) + 1) < 16) = true,
    true = true,
    true = true,
    true = true,
    true = true,
    decide (IntKind.wrap IntKind.i64 (IntKind.wrap IntKind.i64 (IntKind.wrap IntKind.i64 (IntKind.wrap IntKind.i64 (IntKind.wrap IntKind.i64 (IntKind.wrap IntKind.i64 (IntKind.wrap IntKind.i64 (IntKind.wrap IntKind.i64 (0 + 1) + 1) + 1) + 1) + 1) + 1) + 1) + 1) < 16) = true,
    true = true,
    true = true,
    true = true,
    true = true,
    decide (IntKind.wrap IntKind.i64 (IntKind.wrap IntKind.i64 (IntKind.wrap IntKind.i64 (IntKind.wrap IntKind.i64 (IntKind.wrap IntKind.i64 (IntKind.wrap IntKind.i64 (IntKind.wrap IntKind.i64 (0 + 1) + 1) + 1) + 1) + 1) + 1) + 1) < 16) = true,
    true = true,
    true = true,
    true = true,
    true = true,
    decide (IntKind.wrap IntKind.i64 (IntKind.wrap IntKind.i64 (IntKind.wrap IntKind.i64 (IntKind.wrap IntKind.i64 (IntKind.wrap IntKind.i64 (IntKind.wrap IntKind.i64 (0 + 1) + 1) + 1) + 1) + 1) + 1) < 16) = true,
    true = true,
    true = true,
    true = true,
    true = true,
    decide (IntKind.wrap IntKind.i64 (IntKind.wrap IntKind.i64 (IntKind.wrap IntKind.i64 (IntKind.wrap IntKind.i64 (IntKind.wrap IntKind.i64 (0 + 1) + 1) + 1) + 1) + 1) < 16) = true,
    true = true,
    true = true,
    true = true,
    true = true,
    decide (IntKind.wrap IntKind.i64 (IntKind.wrap IntKind.i64 (IntKind.wrap IntKind.i64 (IntKind.wrap IntKind.i64 (0 + 1) + 1) + 1) + 1) < 16) = true,
    true = true,
    true = true,
    true = true,
    true = true,
    decide (IntKind.wrap IntKind.i64 (IntKind.wrap IntKind.i64 (IntKind.wrap IntKind.i64 (0 + 1) + 1) + 1) < 16) = true,
    true = true,
    true = true,
    true = true,
    true = true,
    decide (IntKind.wrap IntKind.i64 (IntKind.wrap IntKind.i64 (0 + 1) + 1) < 16) = true,
    true = true,
    true = true,
    true = true,
    true = true,
    decide (IntKind.wrap IntKind.i64 (0 + 1) < 16) = true,
    true = true,
    true = true,
    true = true,
    true = true,
    decide (0 < 16) = true,
    (!b) = false,
    Owed.use (owed Try.prog 0) 20 [] [AVal.int IntKind.i64 n, AVal.int IntKind.i64 1, AVal.int IntKind.i64 8] [] [AVal.int IntKind.i64 n, AVal.int IntKind.i64 1, AVal.int IntKind.i64 8] [] (AVal.bool b) []]) by kernel_rfl) (allP_of (⟨rfl, rfl, rfl, rfl, rfl, rfl, rfl, rfl, rfl, rfl, rfl, rfl, rfl, rfl, rfl, rfl, rfl, rfl, rfl, rfl, rfl, rfl, rfl, rfl, rfl, rfl, rfl, rfl, rfl, rfl, rfl, rfl, rfl, rfl, rfl, rfl, rfl, rfl, rfl, rfl, rfl, rfl, rfl, rfl, rfl, rfl, rfl, rfl, rfl, rfl, rfl, rfl, rfl, rfl, rfl, rfl, rfl, rfl, rfl, rfl, rfl, rfl, rfl, rfl, rfl, rfl, rfl, rfl, rfl, rfl, rfl, rfl, rfl, rfl, rfl, rfl, rfl, rfl, rfl, rfl, rfl, h1, ⟨h2, rfl, rfl, rfl⟩, trivial⟩))).move ([0]) (by kernel_rfl) (by kernel_rfl) (by kernel_rfl)


theorem owner_1 (row : List AVal) (s : Int) (b : Bool) (c : Bool)
    (h1 : (!b) = true)
    (h2 : FOk Try.prog 21 [AVal.ptr 0 32 0 0] [AObj.rows true 32 [row]] (AVal.bool b) [AObj.rows true 32 [row]]) :
    FOk Try.prog 12 ([AVal.ptr 0 32 0 0, AVal.int IntKind.i64 s]) ([AObj.rows true 32 [row]]) (AVal.tuple [AVal.int IntKind.i64 0, AVal.int IntKind.i64 0, AVal.int IntKind.i64 1]) ([AObj.rows true 32 [row]]) :=
  (evalF_ok followed Try.func12 (by kernel_rfl) (show evalF Try.prog Try.f12 ([AVal.ptr 0 32 0 0, AVal.int IntKind.i64 s]) ([AObj.rows true 32 [row]]) ([Dec.use [0] [AVal.ptr 0 32 0 0] [AObj.rows true 32 [row]] (AVal.bool b) [AObj.rows true 32 [row]], Dec.br true]) = .ok (FRes.mk (AVal.tuple [AVal.int IntKind.i64 0, AVal.int IntKind.i64 0, AVal.int IntKind.i64 1]) ([AObj.rows true 32 [row]]) [(!b) = true,
    Owed.use (owed Try.prog 1) 21 [0] [AVal.ptr 0 32 0 0] [AObj.rows true 32 [row]] [AVal.ptr 0 32 0 0] [AObj.rows true 32 [row]] (AVal.bool b) [AObj.rows true 32 [row]]]) by kernel_rfl) (allP_of (⟨h1, ⟨h2, rfl, rfl, rfl⟩, trivial⟩))).move ([0]) (by kernel_rfl) (by kernel_rfl) (by kernel_rfl)

theorem owner_2 (row : List AVal) (s : Int) (b : Bool) (c : Bool)
    (h1 : (!c) = true)
    (h2 : FOk Try.prog 20 [AVal.int IntKind.i64 s, AVal.int IntKind.i64 0, AVal.int IntKind.i64 15] [] (AVal.bool c) [])
    (h3 : (!b) = false)
    (h4 : FOk Try.prog 21 [AVal.ptr 0 32 0 0] [AObj.rows true 32 [row]] (AVal.bool b) [AObj.rows true 32 [row]]) :
    FOk Try.prog 12 ([AVal.ptr 0 32 0 0, AVal.int IntKind.i64 s]) ([AObj.rows true 32 [row]]) (AVal.tuple [AVal.int IntKind.i64 0, AVal.int IntKind.i64 0, AVal.int IntKind.i64 1]) ([AObj.rows true 32 [row]]) :=
  (evalF_ok followed Try.func12 (by kernel_rfl) (show evalF Try.prog Try.f12 ([AVal.ptr 0 32 0 0, AVal.int IntKind.i64 s]) ([AObj.rows true 32 [row]]) ([Dec.use [0] [AVal.ptr 0 32 0 0] [AObj.rows true 32 [row]] (AVal.bool b) [AObj.rows true 32 [row]], Dec.br false, Dec.use [] [AVal.int IntKind.i64 s, AVal.int IntKind.i64 0, AVal.int IntKind.i64 15] [] (AVal.bool c) [], Dec.br true]) = .ok (FRes.mk (AVal.tuple [AVal.int IntKind.i64 0, AVal.int IntKind.i64 0, AVal.int IntKind.i64 1]) ([AObj.rows true 32 [row]]) [(!c) = true,
    Owed.use (owed Try.prog 1) 20 [] [AVal.int IntKind.i64 s, AVal.int IntKind.i64 0, AVal.int IntKind.i64 15] [AObj.rows true 32 [row]] [AVal.int IntKind.i64 s, AVal.int IntKind.i64 0, AVal.int IntKind.i64 15] [] (AVal.bool c) [],
    (!b) = false,
    Owed.use (owed Try.prog 1) 21 [0] [AVal.ptr 0 32 0 0] [AObj.rows true 32 [row]] [AVal.ptr 0 32 0 0] [AObj.rows true 32 [row]] (AVal.bool b) [AObj.rows true 32 [row]]]) by kernel_rfl) (allP_of (⟨h1, ⟨h2, rfl, rfl, rfl⟩, h3, ⟨h4, rfl, rfl, rfl⟩, trivial⟩))).move ([0]) (by kernel_rfl) (by kernel_rfl) (by kernel_rfl)

theorem owner_3 (row : List AVal) (s : Int) (b : Bool) (c : Bool)
    (h1 : decide (Int.toNat s * 2 + 0 + 1 + 1 ≤ 32) = true)
    (h2 : areKinds [Kind.int IntKind.i64] [List.getD row (Int.toNat s * 2 + 0 + 1 + 0) AVal.any] = true)
    (h3 : decide (0 ≤ s ∧ s < (↑16 : Int)) = true)
    (h4 : decide (Int.toNat s * 2 + 0 + 0 + 1 ≤ 32) = true)
    (h5 : areKinds [Kind.int IntKind.i64] [List.getD row (Int.toNat s * 2 + 0 + 0 + 0) AVal.any] = true)
    (h6 : (!c) = false)
    (h7 : FOk Try.prog 20 [AVal.int IntKind.i64 s, AVal.int IntKind.i64 0, AVal.int IntKind.i64 15] [] (AVal.bool c) [])
    (h8 : (!b) = false)
    (h9 : FOk Try.prog 21 [AVal.ptr 0 32 0 0] [AObj.rows true 32 [row]] (AVal.bool b) [AObj.rows true 32 [row]]) :
    FOk Try.prog 12 ([AVal.ptr 0 32 0 0, AVal.int IntKind.i64 s]) ([AObj.rows true 32 [row]]) (AVal.tuple [AVal.int IntKind.i64 (AVal.toInt (List.getD row (Int.toNat s * 2 + 0 + 0 + 0) AVal.any)), AVal.int IntKind.i64 (AVal.toInt (List.getD row (Int.toNat s * 2 + 0 + 1 + 0) AVal.any)), AVal.int IntKind.i64 0]) ([AObj.rows true 32 [row]]) :=
  (evalF_ok followed Try.func12 (by kernel_rfl) (show evalF Try.prog Try.f12 ([AVal.ptr 0 32 0 0, AVal.int IntKind.i64 s]) ([AObj.rows true 32 [row]]) ([Dec.use [0] [AVal.ptr 0 32 0 0] [AObj.rows true 32 [row]] (AVal.bool b) [AObj.rows true 32 [row]], Dec.br false, Dec.use [] [AVal.int IntKind.i64 s, AVal.int IntKind.i64 0, AVal.int IntKind.i64 15] [] (AVal.bool c) [], Dec.br false]) = .ok (FRes.mk (AVal.tuple [AVal.int IntKind.i64 (AVal.toInt (List.getD row (Int.toNat s * 2 + 0 + 0 + 0) AVal.any)), AVal.int IntKind.i64 (AVal.toInt (List.getD row (Int.toNat s * 2 + 0 + 1 + 0) AVal.any)), AVal.int IntKind.i64 0]) ([AObj.rows true 32 [row]]) [true = true,
    true = true,
    true = true,
    true = true,
    true = true,
    true = true,
    true = true,
    true = true,
    true = true,
    true = true,
    true = true,
    true = true,
    true = true,
    true = true,
    true = true,
    true = true,
    decide (Int.toNat s * 2 + 0 + 1 + 1 ≤ 32) = true,
    areKinds [Kind.int IntKind.i64] [List.getD row (Int.toNat s * 2 + 0 + 1 + 0) AVal.any] = true,
    true = true,
    true = true,
    true = true,
    true = true,
    decide (0 ≤ s ∧ s < (↑16 : Int)) = true,
    true = true,
    true = true,
    true = true,
    true = true,
    true = true,
    true = true,
    true = true,
    true = true,
    true = true,
    true = true,
    true = true,
    decide (Int.toNat s * 2 + 0 + 0 + 1 ≤ 32) = true,
    areKinds [Kind.int IntKind.i64] [List.getD row (Int.toNat s * 2 + 0 + 0 + 0) AVal.any] = true,
    true = true,
    true = true,
    true = true,
    true = true,
    decide (0 ≤ s ∧ s < (↑16 : Int)) = true,
    true = true,
    true = true,
    true = true,
    true = true,
    true = true,
    true = true,
    true = true,
    true = true,
    true = true,
    (!c) = false,
    Owed.use (owed Try.prog 1) 20 [] [AVal.int IntKind.i64 s, AVal.int IntKind.i64 0, AVal.int IntKind.i64 15] [AObj.rows true 32 [row]] [AVal.int IntKind.i64 s, AVal.int IntKind.i64 0, AVal.int IntKind.i64 15] [] (AVal.bool c) [],
    (!b) = false,
    Owed.use (owed Try.prog 1) 21 [0] [AVal.ptr 0 32 0 0] [AObj.rows true 32 [row]] [AVal.ptr 0 32 0 0] [AObj.rows true 32 [row]] (AVal.bool b) [AObj.rows true 32 [row]]]) by kernel_rfl) (allP_of (⟨rfl, rfl, rfl, rfl, rfl, rfl, rfl, rfl, rfl, rfl, rfl, rfl, rfl, rfl, rfl, rfl, h1, h2, rfl, rfl, rfl, rfl, h3, rfl, rfl, rfl, rfl, rfl, rfl, rfl, rfl, rfl, rfl, rfl, h4, h5, rfl, rfl, rfl, rfl, h3, rfl, rfl, rfl, rfl, rfl, rfl, rfl, rfl, rfl, h6, ⟨h7, rfl, rfl, rfl⟩, h8, ⟨h9, rfl, rfl, rfl⟩, trivial⟩))).move ([0]) (by kernel_rfl) (by kernel_rfl) (by kernel_rfl)


theorem give_1 (row : List AVal) (s : Int) (g : Int) (b : Bool) (c : Bool) (d : Bool)
    (h1 : (!b) = true)
    (h2 : FOk Try.prog 21 [AVal.ptr 0 32 0 0] [AObj.rows true 32 [row]] (AVal.bool b) [AObj.rows true 32 [row]]) :
    FOk Try.prog 10 ([AVal.ptr 0 32 0 0, AVal.int IntKind.i64 s, AVal.int IntKind.i64 g]) ([AObj.rows true 32 [row]]) (AVal.int IntKind.i64 1) ([AObj.rows true 32 [row]]) :=
  (evalF_ok followed Try.func10 (by kernel_rfl) (show evalF Try.prog Try.f10 ([AVal.ptr 0 32 0 0, AVal.int IntKind.i64 s, AVal.int IntKind.i64 g]) ([AObj.rows true 32 [row]]) ([Dec.use [0] [AVal.ptr 0 32 0 0] [AObj.rows true 32 [row]] (AVal.bool b) [AObj.rows true 32 [row]], Dec.br true]) = .ok (FRes.mk (AVal.int IntKind.i64 1) ([AObj.rows true 32 [row]]) [(!b) = true,
    Owed.use (owed Try.prog 1) 21 [0] [AVal.ptr 0 32 0 0] [AObj.rows true 32 [row]] [AVal.ptr 0 32 0 0] [AObj.rows true 32 [row]] (AVal.bool b) [AObj.rows true 32 [row]]]) by kernel_rfl) (allP_of (⟨h1, ⟨h2, rfl, rfl, rfl⟩, trivial⟩))).move ([0]) (by kernel_rfl) (by kernel_rfl) (by kernel_rfl)

theorem give_2 (row : List AVal) (s : Int) (g : Int) (b : Bool) (c : Bool) (d : Bool)
    (h1 : (!c) = true)
    (h2 : FOk Try.prog 20 [AVal.int IntKind.i64 s, AVal.int IntKind.i64 0, AVal.int IntKind.i64 15] [] (AVal.bool c) [])
    (h3 : (!b) = false)
    (h4 : FOk Try.prog 21 [AVal.ptr 0 32 0 0] [AObj.rows true 32 [row]] (AVal.bool b) [AObj.rows true 32 [row]]) :
    FOk Try.prog 10 ([AVal.ptr 0 32 0 0, AVal.int IntKind.i64 s, AVal.int IntKind.i64 g]) ([AObj.rows true 32 [row]]) (AVal.int IntKind.i64 1) ([AObj.rows true 32 [row]]) :=
  (evalF_ok followed Try.func10 (by kernel_rfl) (show evalF Try.prog Try.f10 ([AVal.ptr 0 32 0 0, AVal.int IntKind.i64 s, AVal.int IntKind.i64 g]) ([AObj.rows true 32 [row]]) ([Dec.use [0] [AVal.ptr 0 32 0 0] [AObj.rows true 32 [row]] (AVal.bool b) [AObj.rows true 32 [row]], Dec.br false, Dec.use [] [AVal.int IntKind.i64 s, AVal.int IntKind.i64 0, AVal.int IntKind.i64 15] [] (AVal.bool c) [], Dec.br true]) = .ok (FRes.mk (AVal.int IntKind.i64 1) ([AObj.rows true 32 [row]]) [(!c) = true,
    Owed.use (owed Try.prog 1) 20 [] [AVal.int IntKind.i64 s, AVal.int IntKind.i64 0, AVal.int IntKind.i64 15] [AObj.rows true 32 [row]] [AVal.int IntKind.i64 s, AVal.int IntKind.i64 0, AVal.int IntKind.i64 15] [] (AVal.bool c) [],
    (!b) = false,
    Owed.use (owed Try.prog 1) 21 [0] [AVal.ptr 0 32 0 0] [AObj.rows true 32 [row]] [AVal.ptr 0 32 0 0] [AObj.rows true 32 [row]] (AVal.bool b) [AObj.rows true 32 [row]]]) by kernel_rfl) (allP_of (⟨h1, ⟨h2, rfl, rfl, rfl⟩, h3, ⟨h4, rfl, rfl, rfl⟩, trivial⟩))).move ([0]) (by kernel_rfl) (by kernel_rfl) (by kernel_rfl)

theorem give_3 (row : List AVal) (s : Int) (g : Int) (b : Bool) (c : Bool) (d : Bool)
    (h1 : (!d) = true)
    (h2 : FOk Try.prog 20 [AVal.int IntKind.i64 g, AVal.int IntKind.i64 1, AVal.int IntKind.i64 8] [] (AVal.bool d) [])
    (h3 : (!c) = false)
    (h4 : FOk Try.prog 20 [AVal.int IntKind.i64 s, AVal.int IntKind.i64 0, AVal.int IntKind.i64 15] [] (AVal.bool c) [])
    (h5 : (!b) = false)
    (h6 : FOk Try.prog 21 [AVal.ptr 0 32 0 0] [AObj.rows true 32 [row]] (AVal.bool b) [AObj.rows true 32 [row]]) :
    FOk Try.prog 10 ([AVal.ptr 0 32 0 0, AVal.int IntKind.i64 s, AVal.int IntKind.i64 g]) ([AObj.rows true 32 [row]]) (AVal.int IntKind.i64 1) ([AObj.rows true 32 [row]]) :=
  (evalF_ok followed Try.func10 (by kernel_rfl) (show evalF Try.prog Try.f10 ([AVal.ptr 0 32 0 0, AVal.int IntKind.i64 s, AVal.int IntKind.i64 g]) ([AObj.rows true 32 [row]]) ([Dec.use [0] [AVal.ptr 0 32 0 0] [AObj.rows true 32 [row]] (AVal.bool b) [AObj.rows true 32 [row]], Dec.br false, Dec.use [] [AVal.int IntKind.i64 s, AVal.int IntKind.i64 0, AVal.int IntKind.i64 15] [] (AVal.bool c) [], Dec.br false, Dec.use [] [AVal.int IntKind.i64 g, AVal.int IntKind.i64 1, AVal.int IntKind.i64 8] [] (AVal.bool d) [], Dec.br true]) = .ok (FRes.mk (AVal.int IntKind.i64 1) ([AObj.rows true 32 [row]]) [(!d) = true,
    Owed.use (owed Try.prog 1) 20 [] [AVal.int IntKind.i64 g, AVal.int IntKind.i64 1, AVal.int IntKind.i64 8] [AObj.rows true 32 [row]] [AVal.int IntKind.i64 g, AVal.int IntKind.i64 1, AVal.int IntKind.i64 8] [] (AVal.bool d) [],
    (!c) = false,
    Owed.use (owed Try.prog 1) 20 [] [AVal.int IntKind.i64 s, AVal.int IntKind.i64 0, AVal.int IntKind.i64 15] [AObj.rows true 32 [row]] [AVal.int IntKind.i64 s, AVal.int IntKind.i64 0, AVal.int IntKind.i64 15] [] (AVal.bool c) [],
    (!b) = false,
    Owed.use (owed Try.prog 1) 21 [0] [AVal.ptr 0 32 0 0] [AObj.rows true 32 [row]] [AVal.ptr 0 32 0 0] [AObj.rows true 32 [row]] (AVal.bool b) [AObj.rows true 32 [row]]]) by kernel_rfl) (allP_of (⟨h1, ⟨h2, rfl, rfl, rfl⟩, h3, ⟨h4, rfl, rfl, rfl⟩, h5, ⟨h6, rfl, rfl, rfl⟩, trivial⟩))).move ([0]) (by kernel_rfl) (by kernel_rfl) (by kernel_rfl)

theorem give_4 (row : List AVal) (s : Int) (g : Int) (b : Bool) (c : Bool) (d : Bool)
    (h1 : (AVal.toInt (List.getD row (Int.toNat s * 2 + 0 + 0 + 0) AVal.any) == g) = true)
    (h2 : decide (Int.toNat s * 2 + 0 + 0 + 1 ≤ 32) = true)
    (h3 : areKinds [Kind.int IntKind.i64] [List.getD row (Int.toNat s * 2 + 0 + 0 + 0) AVal.any] = true)
    (h4 : decide (0 ≤ s ∧ s < (↑16 : Int)) = true)
    (h5 : (!d) = false)
    (h6 : FOk Try.prog 20 [AVal.int IntKind.i64 g, AVal.int IntKind.i64 1, AVal.int IntKind.i64 8] [] (AVal.bool d) [])
    (h7 : (!c) = false)
    (h8 : FOk Try.prog 20 [AVal.int IntKind.i64 s, AVal.int IntKind.i64 0, AVal.int IntKind.i64 15] [] (AVal.bool c) [])
    (h9 : (!b) = false)
    (h10 : FOk Try.prog 21 [AVal.ptr 0 32 0 0] [AObj.rows true 32 [row]] (AVal.bool b) [AObj.rows true 32 [row]]) :
    FOk Try.prog 10 ([AVal.ptr 0 32 0 0, AVal.int IntKind.i64 s, AVal.int IntKind.i64 g]) ([AObj.rows true 32 [row]]) (AVal.int IntKind.i64 90) ([AObj.rows true 32 [row]]) :=
  (evalF_ok followed Try.func10 (by kernel_rfl) (show evalF Try.prog Try.f10 ([AVal.ptr 0 32 0 0, AVal.int IntKind.i64 s, AVal.int IntKind.i64 g]) ([AObj.rows true 32 [row]]) ([Dec.use [0] [AVal.ptr 0 32 0 0] [AObj.rows true 32 [row]] (AVal.bool b) [AObj.rows true 32 [row]], Dec.br false, Dec.use [] [AVal.int IntKind.i64 s, AVal.int IntKind.i64 0, AVal.int IntKind.i64 15] [] (AVal.bool c) [], Dec.br false, Dec.use [] [AVal.int IntKind.i64 g, AVal.int IntKind.i64 1, AVal.int IntKind.i64 8] [] (AVal.bool d) [], Dec.br false, Dec.br true]) = .ok (FRes.mk (AVal.int IntKind.i64 90) ([AObj.rows true 32 [row]]) [(AVal.toInt (List.getD row (Int.toNat s * 2 + 0 + 0 + 0) AVal.any) == g) = true,
    true = true,
    decide (Int.toNat s * 2 + 0 + 0 + 1 ≤ 32) = true,
    areKinds [Kind.int IntKind.i64] [List.getD row (Int.toNat s * 2 + 0 + 0 + 0) AVal.any] = true,
    decide (0 ≤ s ∧ s < (↑16 : Int)) = true,
    (!d) = false,
    Owed.use (owed Try.prog 1) 20 [] [AVal.int IntKind.i64 g, AVal.int IntKind.i64 1, AVal.int IntKind.i64 8] [AObj.rows true 32 [row]] [AVal.int IntKind.i64 g, AVal.int IntKind.i64 1, AVal.int IntKind.i64 8] [] (AVal.bool d) [],
    (!c) = false,
    Owed.use (owed Try.prog 1) 20 [] [AVal.int IntKind.i64 s, AVal.int IntKind.i64 0, AVal.int IntKind.i64 15] [AObj.rows true 32 [row]] [AVal.int IntKind.i64 s, AVal.int IntKind.i64 0, AVal.int IntKind.i64 15] [] (AVal.bool c) [],
    (!b) = false,
    Owed.use (owed Try.prog 1) 21 [0] [AVal.ptr 0 32 0 0] [AObj.rows true 32 [row]] [AVal.ptr 0 32 0 0] [AObj.rows true 32 [row]] (AVal.bool b) [AObj.rows true 32 [row]]]) by kernel_rfl) (allP_of (⟨h1, rfl, h2, h3, h4, h5, ⟨h6, rfl, rfl, rfl⟩, h7, ⟨h8, rfl, rfl, rfl⟩, h9, ⟨h10, rfl, rfl, rfl⟩, trivial⟩))).move ([0]) (by kernel_rfl) (by kernel_rfl) (by kernel_rfl)

theorem give_5 (row : List AVal) (s : Int) (g : Int) (b : Bool) (c : Bool) (d : Bool)
    (h1 : decide (AVal.toInt (List.getD row (Int.toNat s * 2 + 0 + 1 + 0) AVal.any) ≥ 2147483647) = true)
    (h2 : decide (Int.toNat s * 2 + 0 + 1 + 1 ≤ 32) = true)
    (h3 : areKinds [Kind.int IntKind.i64] [List.getD row (Int.toNat s * 2 + 0 + 1 + 0) AVal.any] = true)
    (h4 : (AVal.toInt (List.getD row (Int.toNat s * 2 + 0 + 0 + 0) AVal.any) == g) = false)
    (h5 : decide (Int.toNat s * 2 + 0 + 0 + 1 ≤ 32) = true)
    (h6 : areKinds [Kind.int IntKind.i64] [List.getD row (Int.toNat s * 2 + 0 + 0 + 0) AVal.any] = true)
    (h7 : decide (0 ≤ s ∧ s < (↑16 : Int)) = true)
    (h8 : (!d) = false)
    (h9 : FOk Try.prog 20 [AVal.int IntKind.i64 g, AVal.int IntKind.i64 1, AVal.int IntKind.i64 8] [] (AVal.bool d) [])
    (h10 : (!c) = false)
    (h11 : FOk Try.prog 20 [AVal.int IntKind.i64 s, AVal.int IntKind.i64 0, AVal.int IntKind.i64 15] [] (AVal.bool c) [])
    (h12 : (!b) = false)
    (h13 : FOk Try.prog 21 [AVal.ptr 0 32 0 0] [AObj.rows true 32 [row]] (AVal.bool b) [AObj.rows true 32 [row]]) :
    FOk Try.prog 10 ([AVal.ptr 0 32 0 0, AVal.int IntKind.i64 s, AVal.int IntKind.i64 g]) ([AObj.rows true 32 [row]]) (AVal.int IntKind.i64 1) ([AObj.rows true 32 [row]]) :=
  (evalF_ok followed Try.func10 (by kernel_rfl) (show evalF Try.prog Try.f10 ([AVal.ptr 0 32 0 0, AVal.int IntKind.i64 s, AVal.int IntKind.i64 g]) ([AObj.rows true 32 [row]]) ([Dec.use [0] [AVal.ptr 0 32 0 0] [AObj.rows true 32 [row]] (AVal.bool b) [AObj.rows true 32 [row]], Dec.br false, Dec.use [] [AVal.int IntKind.i64 s, AVal.int IntKind.i64 0, AVal.int IntKind.i64 15] [] (AVal.bool c) [], Dec.br false, Dec.use [] [AVal.int IntKind.i64 g, AVal.int IntKind.i64 1, AVal.int IntKind.i64 8] [] (AVal.bool d) [], Dec.br false, Dec.br false, Dec.br true]) = .ok (FRes.mk (AVal.int IntKind.i64 1) ([AObj.rows true 32 [row]]) [decide (AVal.toInt (List.getD row (Int.toNat s * 2 + 0 + 1 + 0) AVal.any) ≥ 2147483647) = true,
    true = true,
    decide (Int.toNat s * 2 + 0 + 1 + 1 ≤ 32) = true,
    areKinds [Kind.int IntKind.i64] [List.getD row (Int.toNat s * 2 + 0 + 1 + 0) AVal.any] = true,
    (AVal.toInt (List.getD row (Int.toNat s * 2 + 0 + 0 + 0) AVal.any) == g) = false,
    true = true,
    decide (Int.toNat s * 2 + 0 + 0 + 1 ≤ 32) = true,
    areKinds [Kind.int IntKind.i64] [List.getD row (Int.toNat s * 2 + 0 + 0 + 0) AVal.any] = true,
    decide (0 ≤ s ∧ s < (↑16 : Int)) = true,
    (!d) = false,
    Owed.use (owed Try.prog 1) 20 [] [AVal.int IntKind.i64 g, AVal.int IntKind.i64 1, AVal.int IntKind.i64 8] [AObj.rows true 32 [row]] [AVal.int IntKind.i64 g, AVal.int IntKind.i64 1, AVal.int IntKind.i64 8] [] (AVal.bool d) [],
    (!c) = false,
    Owed.use (owed Try.prog 1) 20 [] [AVal.int IntKind.i64 s, AVal.int IntKind.i64 0, AVal.int IntKind.i64 15] [AObj.rows true 32 [row]] [AVal.int IntKind.i64 s, AVal.int IntKind.i64 0, AVal.int IntKind.i64 15] [] (AVal.bool c) [],
    (!b) = false,
    Owed.use (owed Try.prog 1) 21 [0] [AVal.ptr 0 32 0 0] [AObj.rows true 32 [row]] [AVal.ptr 0 32 0 0] [AObj.rows true 32 [row]] (AVal.bool b) [AObj.rows true 32 [row]]]) by kernel_rfl) (allP_of (⟨h1, rfl, h2, h3, h4, rfl, h5, h6, h7, h8, ⟨h9, rfl, rfl, rfl⟩, h10, ⟨h11, rfl, rfl, rfl⟩, h12, ⟨h13, rfl, rfl, rfl⟩, trivial⟩))).move ([0]) (by kernel_rfl) (by kernel_rfl) (by kernel_rfl)

theorem give_6 (row : List AVal) (s : Int) (g : Int) (b : Bool) (c : Bool) (d : Bool)
    (h1 : decide (Int.toNat s * 2 + 0 + 2 ≤ 32) = true)
    (h2 : decide (Int.toNat s * 2 + 0 + 1 + 1 ≤ 32) = true)
    (h3 : areKinds [Kind.int IntKind.i64] [List.getD row (Int.toNat s * 2 + 0 + 1 + 0) AVal.any] = true)
    (h4 : decide (AVal.toInt (List.getD row (Int.toNat s * 2 + 0 + 1 + 0) AVal.any) ≥ 2147483647) = false)
    (h5 : (AVal.toInt (List.getD row (Int.toNat s * 2 + 0 + 0 + 0) AVal.any) == g) = false)
    (h6 : decide (Int.toNat s * 2 + 0 + 0 + 1 ≤ 32) = true)
    (h7 : areKinds [Kind.int IntKind.i64] [List.getD row (Int.toNat s * 2 + 0 + 0 + 0) AVal.any] = true)
    (h8 : decide (0 ≤ s ∧ s < (↑16 : Int)) = true)
    (h9 : (!d) = false)
    (h10 : FOk Try.prog 20 [AVal.int IntKind.i64 g, AVal.int IntKind.i64 1, AVal.int IntKind.i64 8] [] (AVal.bool d) [])
    (h11 : (!c) = false)
    (h12 : FOk Try.prog 20 [AVal.int IntKind.i64 s, AVal.int IntKind.i64 0, AVal.int IntKind.i64 15] [] (AVal.bool c) [])
    (h13 : (!b) = false)
    (h14 : FOk Try.prog 21 [AVal.ptr 0 32 0 0] [AObj.rows true 32 [row]] (AVal.bool b) [AObj.rows true 32 [row]]) :
    FOk Try.prog 10 ([AVal.ptr 0 32 0 0, AVal.int IntKind.i64 s, AVal.int IntKind.i64 g]) ([AObj.rows true 32 [row]]) (AVal.int IntKind.i64 0) ([AObj.rows true 32 [setCells row (Int.toNat s * 2 + 0) [AVal.int IntKind.i64 g, AVal.int IntKind.i64 (IntKind.wrap IntKind.i64 (AVal.toInt (List.getD row (Int.toNat s * 2 + 0 + 1 + 0) AVal.any) + 1))]]]) :=
  (evalF_ok followed Try.func10 (by kernel_rfl) (show evalF Try.prog Try.f10 ([AVal.ptr 0 32 0 0, AVal.int IntKind.i64 s, AVal.int IntKind.i64 g]) ([AObj.rows true 32 [row]]) ([Dec.use [0] [AVal.ptr 0 32 0 0] [AObj.rows true 32 [row]] (AVal.bool b) [AObj.rows true 32 [row]], Dec.br false, Dec.use [] [AVal.int IntKind.i64 s, AVal.int IntKind.i64 0, AVal.int IntKind.i64 15] [] (AVal.bool c) [], Dec.br false, Dec.use [] [AVal.int IntKind.i64 g, AVal.int IntKind.i64 1, AVal.int IntKind.i64 8] [] (AVal.bool d) [], Dec.br false, Dec.br false, Dec.br false]) = .ok (FRes.mk (AVal.int IntKind.i64 0) ([AObj.rows true 32 [setCells row (Int.toNat s * 2 + 0) [AVal.int IntKind.i64 g, AVal.int IntKind.i64 (IntKind.wrap IntKind.i64 (AVal.toInt (List.getD row (Int.toNat s * 2 + 0 + 1 + 0) AVal.any) + 1))]]]) [true = true,
    decide (Int.toNat s * 2 + 0 + 2 ≤ 32) = true,
    true = true,
    decide (Int.toNat s * 2 + 0 + 1 + 1 ≤ 32) = true,
    areKinds [Kind.int IntKind.i64] [List.getD row (Int.toNat s * 2 + 0 + 1 + 0) AVal.any] = true,
    decide (AVal.toInt (List.getD row (Int.toNat s * 2 + 0 + 1 + 0) AVal.any) ≥ 2147483647) = false,
    true = true,
    decide (Int.toNat s * 2 + 0 + 1 + 1 ≤ 32) = true,
    areKinds [Kind.int IntKind.i64] [List.getD row (Int.toNat s * 2 + 0 + 1 + 0) AVal.any] = true,
    (AVal.toInt (List.getD row (Int.toNat s * 2 + 0 + 0 + 0) AVal.any) == g) = false,
    true = true,
    decide (Int.toNat s * 2 + 0 + 0 + 1 ≤ 32) = true,
    areKinds [Kind.int IntKind.i64] [List.getD row (Int.toNat s * 2 + 0 + 0 + 0) AVal.any] = true,
    decide (0 ≤ s ∧ s < (↑16 : Int)) = true,
    (!d) = false,
    Owed.use (owed Try.prog 1) 20 [] [AVal.int IntKind.i64 g, AVal.int IntKind.i64 1, AVal.int IntKind.i64 8] [AObj.rows true 32 [row]] [AVal.int IntKind.i64 g, AVal.int IntKind.i64 1, AVal.int IntKind.i64 8] [] (AVal.bool d) [],
    (!c) = false,
    Owed.use (owed Try.prog 1) 20 [] [AVal.int IntKind.i64 s, AVal.int IntKind.i64 0, AVal.int IntKind.i64 15] [AObj.rows true 32 [row]] [AVal.int IntKind.i64 s, AVal.int IntKind.i64 0, AVal.int IntKind.i64 15] [] (AVal.bool c) [],
    (!b) = false,
    Owed.use (owed Try.prog 1) 21 [0] [AVal.ptr 0 32 0 0] [AObj.rows true 32 [row]] [AVal.ptr 0 32 0 0] [AObj.rows true 32 [row]] (AVal.bool b) [AObj.rows true 32 [row]]]) by kernel_rfl) (allP_of (⟨rfl, h1, rfl, h2, h3, h4, rfl, h2, h3, h5, rfl, h6, h7, h8, h9, ⟨h10, rfl, rfl, rfl⟩, h11, ⟨h12, rfl, rfl, rfl⟩, h13, ⟨h14, rfl, rfl, rfl⟩, trivial⟩))).move ([0]) (by kernel_rfl) (by kernel_rfl) (by kernel_rfl)



def rgR (row : List AVal) (b : Bool) (len : Nat) (i : Int) : Regs := mkR 49 [(3, .slc b 1 3 0 len none), (13, .pagg row), (14, .int .i64 i)]
theorem rngB_1 (row : List AVal) (out : List (List AVal)) (b : Bool) (len : Nat) (i : Int)
    (h1 : decide (Int.toNat (IntKind.wrap IntKind.i64 ((↑len : Int) - 1)) + 0 < List.length out) = true)
    (h2 : decide (0 ≤ IntKind.wrap IntKind.i64 ((↑len : Int) - 1) ∧ IntKind.wrap IntKind.i64 ((↑len : Int) - 1) < (↑len : Int)) = true)
    (h3 : (AVal.toInt (List.getD (List.getD out (Int.toNat (IntKind.wrap IntKind.i64 ((↑len : Int) - 1)) + 0) []) 2 AVal.any) == AVal.toInt (List.getD row (Int.toNat i * 2 + 0) AVal.any)) = true)
    (h4 : areKinds [Kind.int IntKind.i64] [List.getD (List.getD out (Int.toNat (IntKind.wrap IntKind.i64 ((↑len : Int) - 1)) + 0) []) 2 AVal.any] = true)
    (h5 : decide ((↑len : Int) > 0) = true)
    (h6 : decide (0 ≤ i ∧ i < (↑16 : Int)) = true)
    (h7 : decide (32 ≤ List.length row) = true)
    (h8 : areKinds [Kind.int IntKind.i64, Kind.int IntKind.i64] [List.getD row (Int.toNat i * 2 + 0) AVal.any, List.getD row (Int.toNat i * 2 + 1) AVal.any] = true)
    (h9 : decide (i < 16) = true) :
    TripN Try.prog 1 (loopNo Try.f11 0) (rgR row b len i) ([AObj.rows true 32 [row], AObj.rows true 3 out]) (AExit.normal) (mkR 49 [(3, AVal.slc b 1 3 0 len none), (13, AVal.pagg row), (14, AVal.int IntKind.i64 (IntKind.wrap IntKind.i64 (i + 1)))]) ([AObj.rows true 32 [row], AObj.rows true 3 (List.set out (Int.toNat (IntKind.wrap IntKind.i64 ((↑len : Int) - 1)) + 0) (setCells (List.getD out (Int.toNat (IntKind.wrap IntKind.i64 ((↑len : Int) - 1)) + 0) []) 1 [AVal.int IntKind.i64 i]))]) :=
  evalT (st := St.mk (rgR row b len i) ([AObj.rows true 32 [row], AObj.rows true 3 out]) ([Dec.br true, Dec.br true, Dec.br true]) []) (st' := St.mk ([AVal.any, AVal.any, AVal.any, AVal.slc b 1 3 0 len none, AVal.int IntKind.i64 i, AVal.ptr 2 2 0 0, AVal.int IntKind.i64 (↑len : Int), AVal.any, AVal.any, AVal.any, AVal.any, AVal.any, AVal.any, AVal.pagg row, AVal.int IntKind.i64 (IntKind.wrap IntKind.i64 (i + 1)), AVal.tt true, AVal.int IntKind.i64 i, AVal.agg [AVal.int IntKind.i64 (AVal.toInt (List.getD row (Int.toNat i * 2 + 0) AVal.any)), AVal.int IntKind.i64 (AVal.toInt (List.getD row (Int.toNat i * 2 + 1) AVal.any))], AVal.slc b 1 3 0 len none, AVal.int IntKind.i64 (↑len : Int), AVal.int IntKind.i64 (↑len : Int), AVal.bool (decide ((↑len : Int) > 0)), AVal.tt true, AVal.slc b 1 3 0 len none, AVal.int IntKind.i64 (↑len : Int), AVal.int IntKind.i64 (IntKind.wrap IntKind.i64 ((↑len : Int) - 1)), AVal.ptr 1 3 (Int.toNat (IntKind.wrap IntKind.i64 ((↑len : Int) - 1)) + 0) 0, AVal.ptr 1 3 (Int.toNat (IntKind.wrap IntKind.i64 ((↑len : Int) - 1)) + 0) 2, AVal.int IntKind.i64 (AVal.toInt (List.getD (List.getD out (Int.toNat (IntKind.wrap IntKind.i64 ((↑len : Int) - 1)) + 0) []) 2 AVal.any)), AVal.ptr 2 2 0 0, AVal.int IntKind.i64 (AVal.toInt (List.getD row (Int.toNat i * 2 + 0) AVal.any)), AVal.bool (AVal.toInt (List.getD (List.getD out (Int.toNat (IntKind.wrap IntKind.i64 ((↑len : Int) - 1)) + 0) []) 2 AVal.any) == AVal.toInt (List.getD row (Int.toNat i * 2 + 0) AVal.any)), AVal.tt true, AVal.slc b 1 3 0 len none, AVal.int IntKind.i64 (↑len : Int), AVal.int IntKind.i64 (IntKind.wrap IntKind.i64 ((↑len : Int) - 1)), AVal.int IntKind.i64 i, AVal.ptr 1 3 (Int.toNat (IntKind.wrap IntKind.i64 ((↑len : Int) - 1)) + 0) 0, AVal.ptr 1 3 (Int.toNat (IntKind.wrap IntKind.i64 ((↑len : Int) - 1)) + 0) 1, AVal.any, AVal.any, AVal.any, AVal.any, AVal.any, AVal.any, AVal.any, AVal.any, AVal.int IntKind.i64 (IntKind.wrap IntKind.i64 (i + 1)), AVal.any]) ([AObj.rows true 32 [row], AObj.rows true 3 (List.set out (Int.toNat (IntKind.wrap IntKind.i64 ((↑len : Int) - 1)) + 0) (setCells (List.getD out (Int.toNat (IntKind.wrap IntKind.i64 ((↑len : Int) - 1)) + 0) []) 1 [AVal.int IntKind.i64 i])), AObj.rows true 2 [[AVal.int IntKind.i64 (AVal.toInt (List.getD row (Int.toNat i * 2 + 0) AVal.any)), AVal.int IntKind.i64 (AVal.toInt (List.getD row (Int.toNat i * 2 + 1) AVal.any))]]]) ([]) [decide (Int.toNat (IntKind.wrap IntKind.i64 ((↑len : Int) - 1)) + 0 < List.length out) = true,
    true = true,
    decide (0 ≤ IntKind.wrap IntKind.i64 ((↑len : Int) - 1) ∧ IntKind.wrap IntKind.i64 ((↑len : Int) - 1) < (↑len : Int)) = true,
    (AVal.toInt (List.getD (List.getD out (Int.toNat (IntKind.wrap IntKind.i64 ((↑len : Int) - 1)) + 0) []) 2 AVal.any) == AVal.toInt (List.getD row (Int.toNat i * 2 + 0) AVal.any)) = true,
    true = true,
    true = true,
    true = true,
    true = true,
    true = true,
    true = true,
    true = true,
    true = true,
    true = true,
    true = true,
    true = true,
    true = true,
    true = true,
    true = true,
    true = true,
    true = true,
    true = true,
    true = true,
    true = true,
    decide (Int.toNat (IntKind.wrap IntKind.i64 ((↑len : Int) - 1)) + 0 < List.length out) = true,
    true = true,
    areKinds [Kind.int IntKind.i64] [List.getD (List.getD out (Int.toNat (IntKind.wrap IntKind.i64 ((↑len : Int) - 1)) + 0) []) 2 AVal.any] = true,
    true = true,
    true = true,
    true = true,
    true = true,
    decide (0 ≤ IntKind.wrap IntKind.i64 ((↑len : Int) - 1) ∧ IntKind.wrap IntKind.i64 ((↑len : Int) - 1) < (↑len : Int)) = true,
    true = true,
    true = true,
    true = true,
    true = true,
    true = true,
    true = true,
    decide ((↑len : Int) > 0) = true,
    true = true,
    true = true,
    true = true,
    true = true,
    true = true,
    true = true,
    true = true,
    true = true,
    true = true,
    decide (0 ≤ i ∧ i < (↑16 : Int)) = true,
    decide (32 ≤ List.length row) = true,
    areKinds [Kind.int IntKind.i64, Kind.int IntKind.i64] [List.getD row (Int.toNat i * 2 + 0) AVal.any, List.getD row (Int.toNat i * 2 + 1) AVal.any] = true,
    decide (i < 16) = true]) followed (by kernel_rfl) (allP_of (⟨h1, rfl, h2, h3, rfl, rfl, rfl, rfl, rfl, rfl, rfl, rfl, rfl, rfl, rfl, rfl, rfl, rfl, rfl, rfl, rfl, rfl, rfl, h1, rfl, h4, rfl, rfl, rfl, rfl, h2, rfl, rfl, rfl, rfl, rfl, rfl, h5, rfl, rfl, rfl, rfl, rfl, rfl, rfl, rfl, rfl, h6, h7, h8, h9, trivial⟩)) (keepM 49 [3, 13, 14]) ([0, 1]) (by kernel_rfl) (by kernel_rfl) (by kernel_rfl)

theorem rngB_2 (row : List AVal) (out : List (List AVal)) (b : Bool) (len : Nat) (i : Int)
    (h1 : decide (List.length out = len) = true)
    (h2 : decide ((len + List.length [[AVal.int IntKind.i64 i, AVal.int IntKind.i64 i, AVal.int IntKind.i64 (AVal.toInt (List.getD row (Int.toNat i * 2 + 0) AVal.any))]]) * 24 ≤ 140737488355328 ∧ len + List.length [[AVal.int IntKind.i64 i, AVal.int IntKind.i64 i, AVal.int IntKind.i64 (AVal.toInt (List.getD row (Int.toNat i * 2 + 0) AVal.any))]] ≤ 9223372036854775807) = true)
    (h3 : (AVal.toInt (List.getD (List.getD out (Int.toNat (IntKind.wrap IntKind.i64 ((↑len : Int) - 1)) + 0) []) 2 AVal.any) == AVal.toInt (List.getD row (Int.toNat i * 2 + 0) AVal.any)) = false)
    (h4 : decide (Int.toNat (IntKind.wrap IntKind.i64 ((↑len : Int) - 1)) + 0 < List.length out) = true)
    (h5 : areKinds [Kind.int IntKind.i64] [List.getD (List.getD out (Int.toNat (IntKind.wrap IntKind.i64 ((↑len : Int) - 1)) + 0) []) 2 AVal.any] = true)
    (h6 : decide (0 ≤ IntKind.wrap IntKind.i64 ((↑len : Int) - 1) ∧ IntKind.wrap IntKind.i64 ((↑len : Int) - 1) < (↑len : Int)) = true)
    (h7 : decide ((↑len : Int) > 0) = true)
    (h8 : decide (0 ≤ i ∧ i < (↑16 : Int)) = true)
    (h9 : decide (32 ≤ List.length row) = true)
    (h10 : areKinds [Kind.int IntKind.i64, Kind.int IntKind.i64] [List.getD row (Int.toNat i * 2 + 0) AVal.any, List.getD row (Int.toNat i * 2 + 1) AVal.any] = true)
    (h11 : decide (i < 16) = true) :
    TripN Try.prog 1 (loopNo Try.f11 0) (rgR row b len i) ([AObj.rows true 32 [row], AObj.rows true 3 out]) (AExit.normal) (mkR 49 [(3, AVal.slc (b && List.isEmpty [[AVal.int IntKind.i64 i, AVal.int IntKind.i64 i, AVal.int IntKind.i64 (AVal.toInt (List.getD row (Int.toNat i * 2 + 0) AVal.any))]]) 1 3 0 (len + List.length [[AVal.int IntKind.i64 i, AVal.int IntKind.i64 i, AVal.int IntKind.i64 (AVal.toInt (List.getD row (Int.toNat i * 2 + 0) AVal.any))]]) none), (13, AVal.pagg row), (14, AVal.int IntKind.i64 (IntKind.wrap IntKind.i64 (i + 1)))]) ([AObj.rows true 32 [row], AObj.rows true 3 (out ++ [[AVal.int IntKind.i64 i, AVal.int IntKind.i64 i, AVal.int IntKind.i64 (AVal.toInt (List.getD row (Int.toNat i * 2 + 0) AVal.any))]])]) :=
  evalT (st := St.mk (rgR row b len i) ([AObj.rows true 32 [row], AObj.rows true 3 out]) ([Dec.br true, Dec.br true, Dec.br false]) []) (st' := St.mk ([AVal.any, AVal.any, AVal.any, AVal.slc (b && List.isEmpty [[AVal.int IntKind.i64 i, AVal.int IntKind.i64 i, AVal.int IntKind.i64 (AVal.toInt (List.getD row (Int.toNat i * 2 + 0) AVal.any))]]) 4 3 0 (len + List.length [[AVal.int IntKind.i64 i, AVal.int IntKind.i64 i, AVal.int IntKind.i64 (AVal.toInt (List.getD row (Int.toNat i * 2 + 0) AVal.any))]]) none, AVal.int IntKind.i64 i, AVal.ptr 2 2 0 0, AVal.int IntKind.i64 (↑len : Int), AVal.any, AVal.any, AVal.any, AVal.any, AVal.any, AVal.any, AVal.pagg row, AVal.int IntKind.i64 (IntKind.wrap IntKind.i64 (i + 1)), AVal.tt true, AVal.int IntKind.i64 i, AVal.agg [AVal.int IntKind.i64 (AVal.toInt (List.getD row (Int.toNat i * 2 + 0) AVal.any)), AVal.int IntKind.i64 (AVal.toInt (List.getD row (Int.toNat i * 2 + 1) AVal.any))], AVal.slc b 1 3 0 len none, AVal.int IntKind.i64 (↑len : Int), AVal.int IntKind.i64 (↑len : Int), AVal.bool (decide ((↑len : Int) > 0)), AVal.tt true, AVal.slc b 1 3 0 len none, AVal.int IntKind.i64 (↑len : Int), AVal.int IntKind.i64 (IntKind.wrap IntKind.i64 ((↑len : Int) - 1)), AVal.ptr 1 3 (Int.toNat (IntKind.wrap IntKind.i64 ((↑len : Int) - 1)) + 0) 0, AVal.ptr 1 3 (Int.toNat (IntKind.wrap IntKind.i64 ((↑len : Int) - 1)) + 0) 2, AVal.int IntKind.i64 (AVal.toInt (List.getD (List.getD out (Int.toNat (IntKind.wrap IntKind.i64 ((↑len : Int) - 1)) + 0) []) 2 AVal.any)), AVal.ptr 2 2 0 0, AVal.int IntKind.i64 (AVal.toInt (List.getD row (Int.toNat i * 2 + 0) AVal.any)), AVal.bool (AVal.toInt (List.getD (List.getD out (Int.toNat (IntKind.wrap IntKind.i64 ((↑len : Int) - 1)) + 0) []) 2 AVal.any) == AVal.toInt (List.getD row (Int.toNat i * 2 + 0) AVal.any)), AVal.tt false, AVal.any, AVal.any, AVal.any, AVal.any, AVal.any, AVal.any, AVal.slc b 1 3 0 len none, AVal.int IntKind.i64 i, AVal.int IntKind.i64 i, AVal.ptr 2 2 0 0, AVal.int IntKind.i64 (AVal.toInt (List.getD row (Int.toNat i * 2 + 0) AVal.any)), AVal.agg [AVal.int IntKind.i64 i, AVal.int IntKind.i64 i, AVal.int IntKind.i64 (AVal.toInt (List.getD row (Int.toNat i * 2 + 0) AVal.any))], AVal.slc false 3 3 0 1 (some 1), AVal.slc (b && List.isEmpty [[AVal.int IntKind.i64 i, AVal.int IntKind.i64 i, AVal.int IntKind.i64 (AVal.toInt (List.getD row (Int.toNat i * 2 + 0) AVal.any))]]) 4 3 0 (len + List.length [[AVal.int IntKind.i64 i, AVal.int IntKind.i64 i, AVal.int IntKind.i64 (AVal.toInt (List.getD row (Int.toNat i * 2 + 0) AVal.any))]]) none, AVal.int IntKind.i64 (IntKind.wrap IntKind.i64 (i + 1)), AVal.any]) ([AObj.rows true 32 [row], AObj.dead, AObj.rows true 2 [[AVal.int IntKind.i64 (AVal.toInt (List.getD row (Int.toNat i * 2 + 0) AVal.any)), AVal.int IntKind.i64 (AVal.toInt (List.getD row (Int.toNat i * 2 + 1) AVal.any))]], AObj.rows true 3 [[AVal.int IntKind.i64 i, AVal.int IntKind.i64 i, AVal.int IntKind.i64 (AVal.toInt (List.getD row (Int.toNat i * 2 + 0) AVal.any))]], AObj.rows true 3 (out ++ [[AVal.int IntKind.i64 i, AVal.int IntKind.i64 i, AVal.int IntKind.i64 (AVal.toInt (List.getD row (Int.toNat i * 2 + 0) AVal.any))]])]) ([]) [decide (List.length out = len) = true,
    decide ((len + List.length [[AVal.int IntKind.i64 i, AVal.int IntKind.i64 i, AVal.int IntKind.i64 (AVal.toInt (List.getD row (Int.toNat i * 2 + 0) AVal.any))]]) * 24 ≤ 140737488355328 ∧ len + List.length [[AVal.int IntKind.i64 i, AVal.int IntKind.i64 i, AVal.int IntKind.i64 (AVal.toInt (List.getD row (Int.toNat i * 2 + 0) AVal.any))]] ≤ 9223372036854775807) = true,
    true = true,
    true = true,
    true = true,
    true = true,
    true = true,
    (AVal.toInt (List.getD (List.getD out (Int.toNat (IntKind.wrap IntKind.i64 ((↑len : Int) - 1)) + 0) []) 2 AVal.any) == AVal.toInt (List.getD row (Int.toNat i * 2 + 0) AVal.any)) = false,
    true = true,
    true = true,
    true = true,
    true = true,
    true = true,
    true = true,
    true = true,
    true = true,
    true = true,
    true = true,
    true = true,
    true = true,
    true = true,
    true = true,
    true = true,
    true = true,
    true = true,
    true = true,
    true = true,
    decide (Int.toNat (IntKind.wrap IntKind.i64 ((↑len : Int) - 1)) + 0 < List.length out) = true,
    true = true,
    areKinds [Kind.int IntKind.i64] [List.getD (List.getD out (Int.toNat (IntKind.wrap IntKind.i64 ((↑len : Int) - 1)) + 0) []) 2 AVal.any] = true,
    true = true,
    true = true,
    true = true,
    true = true,
    decide (0 ≤ IntKind.wrap IntKind.i64 ((↑len : Int) - 1) ∧ IntKind.wrap IntKind.i64 ((↑len : Int) - 1) < (↑len : Int)) = true,
    true = true,
    true = true,
    true = true,
    true = true,
    true = true,
    true = true,
    decide ((↑len : Int) > 0) = true,
    true = true,
    true = true,
    true = true,
    true = true,
    true = true,
    true = true,
    true = true,
    true = true,
    true = true,
    decide (0 ≤ i ∧ i < (↑16 : Int)) = true,
    decide (32 ≤ List.length row) = true,
    areKinds [Kind.int IntKind.i64, Kind.int IntKind.i64] [List.getD row (Int.toNat i * 2 + 0) AVal.any, List.getD row (Int.toNat i * 2 + 1) AVal.any] = true,
    decide (i < 16) = true]) followed (by kernel_rfl) (allP_of (⟨h1, h2, rfl, rfl, rfl, rfl, rfl, h3, rfl, rfl, rfl, rfl, rfl, rfl, rfl, rfl, rfl, rfl, rfl, rfl, rfl, rfl, rfl, rfl, rfl, rfl, rfl, h4, rfl, h5, rfl, rfl, rfl, rfl, h6, rfl, rfl, rfl, rfl, rfl, rfl, h7, rfl, rfl, rfl, rfl, rfl, rfl, rfl, rfl, rfl, h8, h9, h10, h11, trivial⟩)) (keepM 49 [3, 13, 14]) ([0, 4]) (by kernel_rfl) (by kernel_rfl) (by kernel_rfl)

theorem rngB_3 (row : List AVal) (out : List (List AVal)) (b : Bool) (len : Nat) (i : Int)
    (h1 : decide (List.length out = len) = true)
    (h2 : decide ((len + List.length [[AVal.int IntKind.i64 i, AVal.int IntKind.i64 i, AVal.int IntKind.i64 (AVal.toInt (List.getD row (Int.toNat i * 2 + 0) AVal.any))]]) * 24 ≤ 140737488355328 ∧ len + List.length [[AVal.int IntKind.i64 i, AVal.int IntKind.i64 i, AVal.int IntKind.i64 (AVal.toInt (List.getD row (Int.toNat i * 2 + 0) AVal.any))]] ≤ 9223372036854775807) = true)
    (h3 : decide ((↑len : Int) > 0) = false)
    (h4 : decide (0 ≤ i ∧ i < (↑16 : Int)) = true)
    (h5 : decide (32 ≤ List.length row) = true)
    (h6 : areKinds [Kind.int IntKind.i64, Kind.int IntKind.i64] [List.getD row (Int.toNat i * 2 + 0) AVal.any, List.getD row (Int.toNat i * 2 + 1) AVal.any] = true)
    (h7 : decide (i < 16) = true) :
    TripN Try.prog 1 (loopNo Try.f11 0) (rgR row b len i) ([AObj.rows true 32 [row], AObj.rows true 3 out]) (AExit.normal) (mkR 49 [(3, AVal.slc (b && List.isEmpty [[AVal.int IntKind.i64 i, AVal.int IntKind.i64 i, AVal.int IntKind.i64 (AVal.toInt (List.getD row (Int.toNat i * 2 + 0) AVal.any))]]) 1 3 0 (len + List.length [[AVal.int IntKind.i64 i, AVal.int IntKind.i64 i, AVal.int IntKind.i64 (AVal.toInt (List.getD row (Int.toNat i * 2 + 0) AVal.any))]]) none), (13, AVal.pagg row), (14, AVal.int IntKind.i64 (IntKind.wrap IntKind.i64 (i + 1)))]) ([AObj.rows true 32 [row], AObj.rows true 3 (out ++ [[AVal.int IntKind.i64 i, AVal.int IntKind.i64 i, AVal.int IntKind.i64 (AVal.toInt (List.getD row (Int.toNat i * 2 + 0) AVal.any))]])]) :=
  evalT (st := St.mk (rgR row b len i) ([AObj.rows true 32 [row], AObj.rows true 3 out]) ([Dec.br true, Dec.br false]) []) (st' := St.mk ([AVal.any, AVal.any, AVal.any, AVal.slc (b && List.isEmpty [[AVal.int IntKind.i64 i, AVal.int IntKind.i64 i, AVal.int IntKind.i64 (AVal.toInt (List.getD row (Int.toNat i * 2 + 0) AVal.any))]]) 4 3 0 (len + List.length [[AVal.int IntKind.i64 i, AVal.int IntKind.i64 i, AVal.int IntKind.i64 (AVal.toInt (List.getD row (Int.toNat i * 2 + 0) AVal.any))]]) none, AVal.int IntKind.i64 i, AVal.ptr 2 2 0 0, AVal.int IntKind.i64 (↑len : Int), AVal.any, AVal.any, AVal.any, AVal.any, AVal.any, AVal.any, AVal.pagg row, AVal.int IntKind.i64 (IntKind.wrap IntKind.i64 (i + 1)), AVal.tt true, AVal.int IntKind.i64 i, AVal.agg [AVal.int IntKind.i64 (AVal.toInt (List.getD row (Int.toNat i * 2 + 0) AVal.any)), AVal.int IntKind.i64 (AVal.toInt (List.getD row (Int.toNat i * 2 + 1) AVal.any))], AVal.slc b 1 3 0 len none, AVal.int IntKind.i64 (↑len : Int), AVal.int IntKind.i64 (↑len : Int), AVal.bool (decide ((↑len : Int) > 0)), AVal.tt false, AVal.tuple [], AVal.tuple [], AVal.tuple [], AVal.tuple [], AVal.tuple [], AVal.tuple [], AVal.tuple [], AVal.tuple [], AVal.tuple [], AVal.tt false, AVal.any, AVal.any, AVal.any, AVal.any, AVal.any, AVal.any, AVal.slc b 1 3 0 len none, AVal.int IntKind.i64 i, AVal.int IntKind.i64 i, AVal.ptr 2 2 0 0, AVal.int IntKind.i64 (AVal.toInt (List.getD row (Int.toNat i * 2 + 0) AVal.any)), AVal.agg [AVal.int IntKind.i64 i, AVal.int IntKind.i64 i, AVal.int IntKind.i64 (AVal.toInt (List.getD row (Int.toNat i * 2 + 0) AVal.any))], AVal.slc false 3 3 0 1 (some 1), AVal.slc (b && List.isEmpty [[AVal.int IntKind.i64 i, AVal.int IntKind.i64 i, AVal.int IntKind.i64 (AVal.toInt (List.getD row (Int.toNat i * 2 + 0) AVal.any))]]) 4 3 0 (len + List.length [[AVal.int IntKind.i64 i, AVal.int IntKind.i64 i, AVal.int IntKind.i64 (AVal.toInt (List.getD row (Int.toNat i * 2 + 0) AVal.any))]]) none, AVal.int IntKind.i64 (IntKind.wrap IntKind.i64 (i + 1)), AVal.any]) ([AObj.rows true 32 [row], AObj.dead, AObj.rows true 2 [[AVal.int IntKind.i64 (AVal.toInt (List.getD row (Int.toNat i * 2 + 0) AVal.any)), AVal.int IntKind.i64 (AVal.toInt (List.getD row (Int.toNat i * 2 + 1) AVal.any))]], AObj.rows true 3 [[AVal.int IntKind.i64 i, AVal.int IntKind.i64 i, AVal.int IntKind.i64 (AVal.toInt (List.getD row (Int.toNat i * 2 + 0) AVal.any))]], AObj.rows true 3 (out ++ [[AVal.int IntKind.i64 i, AVal.int IntKind.i64 i, AVal.int IntKind.i64 (AVal.toInt (List.getD row (Int.toNat i * 2 + 0) AVal.any))]])]) ([]) [decide (List.length out = len) = true,
    decide ((len + List.length [[AVal.int IntKind.i64 i, AVal.int IntKind.i64 i, AVal.int IntKind.i64 (AVal.toInt (List.getD row (Int.toNat i * 2 + 0) AVal.any))]]) * 24 ≤ 140737488355328 ∧ len + List.length [[AVal.int IntKind.i64 i, AVal.int IntKind.i64 i, AVal.int IntKind.i64 (AVal.toInt (List.getD row (Int.toNat i * 2 + 0) AVal.any))]] ≤ 9223372036854775807) = true,
    true = true,
    true = true,
    true = true,
    true = true,
    true = true,
    true = true,
    true = true,
    true = true,
    true = true,
    true = true,
    true = true,
    true = true,
    true = true,
    true = true,
    true = true,
    true = true,
    true = true,
    true = true,
    true = true,
    true = true,
    true = true,
    true = true,
    true = true,
    true = true,
    true = true,
    decide ((↑len : Int) > 0) = false,
    true = true,
    true = true,
    true = true,
    true = true,
    true = true,
    true = true,
    true = true,
    true = true,
    true = true,
    decide (0 ≤ i ∧ i < (↑16 : Int)) = true,
    decide (32 ≤ List.length row) = true,
    areKinds [Kind.int IntKind.i64, Kind.int IntKind.i64] [List.getD row (Int.toNat i * 2 + 0) AVal.any, List.getD row (Int.toNat i * 2 + 1) AVal.any] = true,
    decide (i < 16) = true]) followed (by kernel_rfl) (allP_of (⟨h1, h2, rfl, rfl, rfl, rfl, rfl, rfl, rfl, rfl, rfl, rfl, rfl, rfl, rfl, rfl, rfl, rfl, rfl, rfl, rfl, rfl, rfl, rfl, rfl, rfl, rfl, h3, rfl, rfl, rfl, rfl, rfl, rfl, rfl, rfl, rfl, h4, h5, h6, h7, trivial⟩)) (keepM 49 [3, 13, 14]) ([0, 4]) (by kernel_rfl) (by kernel_rfl) (by kernel_rfl)

theorem rngB_4 (row : List AVal) (out : List (List AVal)) (b : Bool) (len : Nat) (i : Int)
    (h1 : decide (i < 16) = false) :
    TripN Try.prog 1 (loopNo Try.f11 0) (rgR row b len i) ([AObj.rows true 32 [row], AObj.rows true 3 out]) (AExit.exit 0) (mkR 49 [(3, AVal.slc b 1 3 0 len none), (13, AVal.pagg row), (14, AVal.int IntKind.i64 i)]) ([AObj.rows true 32 [row], AObj.rows true 3 out]) :=
  evalT (st := St.mk (rgR row b len i) ([AObj.rows true 32 [row], AObj.rows true 3 out]) ([Dec.br false]) []) (st' := St.mk ([AVal.any, AVal.any, AVal.any, AVal.slc b 1 3 0 len none, AVal.any, AVal.any, AVal.any, AVal.any, AVal.any, AVal.any, AVal.any, AVal.any, AVal.any, AVal.pagg row, AVal.int IntKind.i64 i, AVal.tt false, AVal.any, AVal.any, AVal.any, AVal.any, AVal.any, AVal.any, AVal.any, AVal.any, AVal.any, AVal.any, AVal.any, AVal.any, AVal.any, AVal.any, AVal.any, AVal.any, AVal.any, AVal.any, AVal.any, AVal.any, AVal.any, AVal.any, AVal.any, AVal.any, AVal.any, AVal.any, AVal.any, AVal.any, AVal.any, AVal.any, AVal.any, AVal.any, AVal.any]) ([AObj.rows true 32 [row], AObj.rows true 3 out]) ([]) [decide (i < 16) = false]) followed (by kernel_rfl) (allP_of (⟨h1, trivial⟩)) (keepM 49 [3, 13, 14]) ([0, 1]) (by kernel_rfl) (by kernel_rfl) (by kernel_rfl)


theorem ranges_1 (row : List AVal) (out : List (List AVal)) (b : Bool)
    (h1 : TripN Try.prog 1 (Code.loop (loopNo Try.f11 0)) (mkR 49 [(3, AVal.slc true 1 3 0 0 none), (13, AVal.pagg row), (14, AVal.int IntKind.i64 0)]) [AObj.rows true 32 [row], AObj.rows true 3 []] (AExit.exit 0) (mkR 49 [(3, AVal.slc b 1 3 0 (List.length out) none), (13, AVal.pagg row), (14, AVal.int IntKind.i64 16)]) [AObj.rows true 32 [row], AObj.rows true 3 out])
    (h2 : FOk Try.prog 21 [AVal.ptr 0 32 0 0] [AObj.rows true 32 [row]] (AVal.bool true) [AObj.rows true 32 [row]]) :
    FOk Try.prog 11 ([AVal.ptr 0 32 0 0]) ([AObj.rows true 32 [row]]) (AVal.slc b 1 3 0 (List.length out) none) ([AObj.rows true 32 [row], AObj.rows true 3 out]) :=
  (evalF_ok followed Try.func11 (by kernel_rfl) (show evalF Try.prog Try.f11 ([AVal.ptr 0 32 0 0]) ([AObj.rows true 32 [row]]) ([Dec.use [0] [AVal.ptr 0 32 0 0] [AObj.rows true 32 [row]] (AVal.bool true) [AObj.rows true 32 [row]], Dec.br false, Dec.place 3 3 true, Dec.compact (keepM 49 [3, 13, 14]) [0, 1], Dec.loop (AExit.exit 0) (rgR row b (List.length out) 16) [AObj.rows true 32 [row], AObj.rows true 3 out]]) = .ok (FRes.mk (AVal.slc b 1 3 0 (List.length out) none) ([AObj.rows true 32 [row], AObj.rows true 3 out]) [Owed.loop (owed Try.prog 1) (loopNo Try.f11 0) (mkR 49 [(3, AVal.slc true 1 3 0 0 none), (13, AVal.pagg row), (14, AVal.int IntKind.i64 0)]) [AObj.rows true 32 [row], AObj.rows true 3 []] (AExit.exit 0) (mkR 49 [(3, AVal.slc b 1 3 0 (List.length out) none), (13, AVal.pagg row), (14, AVal.int IntKind.i64 16)]) [AObj.rows true 32 [row], AObj.rows true 3 out],
    true = true,
    true = true,
    false = false,
    Owed.use (owed Try.prog 1) 21 [0] [AVal.ptr 0 32 0 0] [AObj.rows true 32 [row]] [AVal.ptr 0 32 0 0] [AObj.rows true 32 [row]] (AVal.bool true) [AObj.rows true 32 [row]]]) by kernel_rfl) (allP_of (⟨h1, rfl, rfl, rfl, ⟨h2, rfl, rfl, rfl⟩, trivial⟩))).move ([0, 1]) (by kernel_rfl) (by kernel_rfl) (by kernel_rfl)


end Go.L10

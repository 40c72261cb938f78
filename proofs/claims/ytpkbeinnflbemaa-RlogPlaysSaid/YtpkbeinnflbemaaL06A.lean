import Derived.Test.YtpkbeinnflbemaaProg
import Derived.Test.YtpkbeinnflbemaaAbsRow
set_option linter.unusedVariables false
set_option maxRecDepth 100000
namespace Go.L06
open Go Go.Abs Go.Proofs

theorem followed : Try.prog.follows .mixedOrders = true := by kernel_rfl

/-- a log: its base, that one's term, its entries -/
abbrev LogO (a m : Int) (b : Bool) (n : Nat) (rs : List (List AVal)) : AState := [.rows false 4 [[.int .i64 a, .int .i64 m, .slc b 1 2 0 n none, .tt true]], .rows true 2 rs]
abbrev entV (t : Int) (d : ByteArray) : AVal := .agg [.int .i64 t, .str d]
abbrev logP : AVal := .ptr 0 4 0 0

theorem new_1 (a : Int) (m : Int)
    (h1 : decide (a < 0) = true) :
    FOk Try.prog 8 ([AVal.int IntKind.i64 a, AVal.int IntKind.i64 m]) ([]) (AVal.tuple [AVal.nilp, AVal.int IntKind.i64 1]) ([]) :=
  (evalF_ok followed Try.func8 (by kernel_rfl) (show evalF Try.prog Try.f8 ([AVal.int IntKind.i64 a, AVal.int IntKind.i64 m]) ([]) ([Dec.br true]) = .ok (FRes.mk (AVal.tuple [AVal.nilp, AVal.int IntKind.i64 1]) ([]) [Brd (decide (a < 0)) true]) by kernel_rfl) (allP_of (⟨h1, trivial⟩))).move ([]) (by kernel_rfl) (by kernel_rfl) (by kernel_rfl)

theorem new_2 (a : Int) (m : Int)
    (h1 : decide (a > 1099511627776) = true)
    (h2 : decide (a < 0) = false) :
    FOk Try.prog 8 ([AVal.int IntKind.i64 a, AVal.int IntKind.i64 m]) ([]) (AVal.tuple [AVal.nilp, AVal.int IntKind.i64 1]) ([]) :=
  (evalF_ok followed Try.func8 (by kernel_rfl) (show evalF Try.prog Try.f8 ([AVal.int IntKind.i64 a, AVal.int IntKind.i64 m]) ([]) ([Dec.br false, Dec.br true]) = .ok (FRes.mk (AVal.tuple [AVal.nilp, AVal.int IntKind.i64 1]) ([]) [Brd (decide (a > 1099511627776)) true,
    Brd (decide (a < 0)) false]) by kernel_rfl) (allP_of (⟨h1, h2, trivial⟩))).move ([]) (by kernel_rfl) (by kernel_rfl) (by kernel_rfl)

theorem new_3 (a : Int) (m : Int)
    (h1 : decide (m < 0) = true)
    (h2 : decide (a > 1099511627776) = false)
    (h3 : decide (a < 0) = false) :
    FOk Try.prog 8 ([AVal.int IntKind.i64 a, AVal.int IntKind.i64 m]) ([]) (AVal.tuple [AVal.nilp, AVal.int IntKind.i64 1]) ([]) :=
  (evalF_ok followed Try.func8 (by kernel_rfl) (show evalF Try.prog Try.f8 ([AVal.int IntKind.i64 a, AVal.int IntKind.i64 m]) ([]) ([Dec.br false, Dec.br false, Dec.br true]) = .ok (FRes.mk (AVal.tuple [AVal.nilp, AVal.int IntKind.i64 1]) ([]) [Brd (decide (m < 0)) true,
    Brd (decide (a > 1099511627776)) false,
    Brd (decide (a < 0)) false]) by kernel_rfl) (allP_of (⟨h1, h2, h3, trivial⟩))).move ([]) (by kernel_rfl) (by kernel_rfl) (by kernel_rfl)

theorem new_4 (a : Int) (m : Int)
    (h1 : decide (m > 1099511627776) = true)
    (h2 : decide (m < 0) = false)
    (h3 : decide (a > 1099511627776) = false)
    (h4 : decide (a < 0) = false) :
    FOk Try.prog 8 ([AVal.int IntKind.i64 a, AVal.int IntKind.i64 m]) ([]) (AVal.tuple [AVal.nilp, AVal.int IntKind.i64 1]) ([]) :=
  (evalF_ok followed Try.func8 (by kernel_rfl) (show evalF Try.prog Try.f8 ([AVal.int IntKind.i64 a, AVal.int IntKind.i64 m]) ([]) ([Dec.br false, Dec.br false, Dec.br false, Dec.br true]) = .ok (FRes.mk (AVal.tuple [AVal.nilp, AVal.int IntKind.i64 1]) ([]) [Brd (decide (m > 1099511627776)) true,
    Brd (decide (m < 0)) false,
    Brd (decide (a > 1099511627776)) false,
    Brd (decide (a < 0)) false]) by kernel_rfl) (allP_of (⟨h1, h2, h3, h4, trivial⟩))).move ([]) (by kernel_rfl) (by kernel_rfl) (by kernel_rfl)

theorem new_5 (a : Int) (m : Int)
    (h1 : decide (m > 1099511627776) = false)
    (h2 : decide (m < 0) = false)
    (h3 : decide (a > 1099511627776) = false)
    (h4 : decide (a < 0) = false) :
    FOk Try.prog 8 ([AVal.int IntKind.i64 a, AVal.int IntKind.i64 m]) ([]) (AVal.tuple [AVal.ptr 0 4 0 0, AVal.int IntKind.i64 0]) ([AObj.rows false 4 [[AVal.int IntKind.i64 a, AVal.int IntKind.i64 m, AVal.fsl true 0 [] (some 0), AVal.tt true]]]) :=
  (evalF_ok followed Try.func8 (by kernel_rfl) (show evalF Try.prog Try.f8 ([AVal.int IntKind.i64 a, AVal.int IntKind.i64 m]) ([]) ([Dec.br false, Dec.br false, Dec.br false, Dec.br false]) = .ok (FRes.mk (AVal.tuple [AVal.ptr 0 4 0 0, AVal.int IntKind.i64 0]) ([AObj.rows false 4 [[AVal.int IntKind.i64 a, AVal.int IntKind.i64 m, AVal.fsl true 0 [] (some 0), AVal.tt true]]]) [Brd (decide (m > 1099511627776)) false,
    Brd (decide (m < 0)) false,
    Brd (decide (a > 1099511627776)) false,
    Brd (decide (a < 0)) false]) by kernel_rfl) (allP_of (⟨h1, h2, h3, h4, trivial⟩))).move ([0]) (by kernel_rfl) (by kernel_rfl) (by kernel_rfl)


theorem given_1 (a : Int) (m : Int) (b : Bool) (n : Nat) (rs : List (List AVal)) :
    FOk Try.prog 22 ([logP]) (LogO a m b n rs) (AVal.bool true) ([AObj.rows false 4 [[AVal.int IntKind.i64 a, AVal.int IntKind.i64 m, AVal.slc b 1 2 0 n none, AVal.tt true]], AObj.rows true 2 rs]) :=
  (evalF_ok followed Try.func22 (by kernel_rfl) (show evalF Try.prog Try.f22 ([logP]) (LogO a m b n rs) ([Dec.br true]) = .ok (FRes.mk (AVal.bool true) ([AObj.rows false 4 [[AVal.int IntKind.i64 a, AVal.int IntKind.i64 m, AVal.slc b 1 2 0 n none, AVal.tt true]], AObj.rows true 2 rs]) [true = true,
    true = true,
    Brd (!false) true]) by kernel_rfl) (allP_of (⟨rfl, rfl, rfl, trivial⟩))).move ([0, 1]) (by kernel_rfl) (by kernel_rfl) (by kernel_rfl)


theorem base_1 (a : Int) (m : Int) (b : Bool) (n : Nat) (rs : List (List AVal))
    (h1 : FOk Try.prog 22 [AVal.ptr 0 4 0 0] [AObj.rows false 4 [[AVal.int IntKind.i64 a, AVal.int IntKind.i64 m, AVal.slc b 1 2 0 n none, AVal.tt true]], AObj.rows true 2 rs] (AVal.bool true) [AObj.rows false 4 [[AVal.int IntKind.i64 a, AVal.int IntKind.i64 m, AVal.slc b 1 2 0 n none, AVal.tt true]], AObj.rows true 2 rs]) :
    FOk Try.prog 15 ([logP]) (LogO a m b n rs) (AVal.int IntKind.i64 a) ([AObj.rows false 4 [[AVal.int IntKind.i64 a, AVal.int IntKind.i64 m, AVal.slc b 1 2 0 n none, AVal.tt true]], AObj.rows true 2 rs]) :=
  (evalF_ok followed Try.func15 (by kernel_rfl) (show evalF Try.prog Try.f15 ([logP]) (LogO a m b n rs) ([Dec.use [0, 1] [AVal.ptr 0 4 0 0] [AObj.rows false 4 [[AVal.int IntKind.i64 a, AVal.int IntKind.i64 m, AVal.slc b 1 2 0 n none, AVal.tt true]], AObj.rows true 2 rs] (AVal.bool true) [AObj.rows false 4 [[AVal.int IntKind.i64 a, AVal.int IntKind.i64 m, AVal.slc b 1 2 0 n none, AVal.tt true]], AObj.rows true 2 rs], Dec.br false]) = .ok (FRes.mk (AVal.int IntKind.i64 a) ([AObj.rows false 4 [[AVal.int IntKind.i64 a, AVal.int IntKind.i64 m, AVal.slc b 1 2 0 n none, AVal.tt true]], AObj.rows true 2 rs]) [true = true,
    true = true,
    Brd false false,
    Owed.use (owed Try.prog 2) 22 [0, 1] [AVal.ptr 0 4 0 0] [AObj.rows false 4 [[AVal.int IntKind.i64 a, AVal.int IntKind.i64 m, AVal.slc b 1 2 0 n none, AVal.tt true]], AObj.rows true 2 rs] [AVal.ptr 0 4 0 0] [AObj.rows false 4 [[AVal.int IntKind.i64 a, AVal.int IntKind.i64 m, AVal.slc b 1 2 0 n none, AVal.tt true]], AObj.rows true 2 rs] (AVal.bool true) [AObj.rows false 4 [[AVal.int IntKind.i64 a, AVal.int IntKind.i64 m, AVal.slc b 1 2 0 n none, AVal.tt true]], AObj.rows true 2 rs]]) by kernel_rfl) (allP_of (⟨rfl, rfl, rfl, ⟨h1, rfl, rfl, rfl⟩, trivial⟩))).move ([0, 1]) (by kernel_rfl) (by kernel_rfl) (by kernel_rfl)


theorem last_1 (a : Int) (m : Int) (b : Bool) (n : Nat) (rs : List (List AVal))
    (h1 : FOk Try.prog 22 [AVal.ptr 0 4 0 0] [AObj.rows false 4 [[AVal.int IntKind.i64 a, AVal.int IntKind.i64 m, AVal.slc b 1 2 0 n none, AVal.tt true]], AObj.rows true 2 rs] (AVal.bool true) [AObj.rows false 4 [[AVal.int IntKind.i64 a, AVal.int IntKind.i64 m, AVal.slc b 1 2 0 n none, AVal.tt true]], AObj.rows true 2 rs]) :
    FOk Try.prog 12 ([logP]) (LogO a m b n rs) (AVal.int IntKind.i64 (IntKind.wrap IntKind.i64 (a + (↑n : Int)))) ([AObj.rows false 4 [[AVal.int IntKind.i64 a, AVal.int IntKind.i64 m, AVal.slc b 1 2 0 n none, AVal.tt true]], AObj.rows true 2 rs]) :=
  (evalF_ok followed Try.func12 (by kernel_rfl) (show evalF Try.prog Try.f12 ([logP]) (LogO a m b n rs) ([Dec.use [0, 1] [AVal.ptr 0 4 0 0] [AObj.rows false 4 [[AVal.int IntKind.i64 a, AVal.int IntKind.i64 m, AVal.slc b 1 2 0 n none, AVal.tt true]], AObj.rows true 2 rs] (AVal.bool true) [AObj.rows false 4 [[AVal.int IntKind.i64 a, AVal.int IntKind.i64 m, AVal.slc b 1 2 0 n none, AVal.tt true]], AObj.rows true 2 rs], Dec.br false]) = .ok (FRes.mk (AVal.int IntKind.i64 (IntKind.wrap IntKind.i64 (a + (↑n : Int)))) ([AObj.rows false 4 [[AVal.int IntKind.i64 a, AVal.int IntKind.i64 m, AVal.slc b 1 2 0 n none, AVal.tt true]], AObj.rows true 2 rs]) [true = true,
    true = true,
    true = true,
    true = true,
    true = true,
    true = true,
    true = true,
    true = true,
    true = true,
    true = true,
    true = true,
    true = true,
    true = true,
    true = true,
    true = true,
    true = true,
    true = true,
    true = true,
    true = true,
    true = true,
    true = true,
    true = true,
    true = true,
    true = true,
    true = true,
    true = true,
    true = true,
    true = true,
    true = true,
    true = true,
    true = true,
    true = true,
    true = true,
    true = true,
    true = true,
    Brd false false,
    Owed.use (owed Try.prog 2) 22 [0, 1] [AVal.ptr 0 4 0 0] [AObj.rows false 4 [[AVal.int IntKind.i64 a, AVal.int IntKind.i64 m, AVal.slc b 1 2 0 n none, AVal.tt true]], AObj.rows true 2 rs] [AVal.ptr 0 4 0 0] [AObj.rows false 4 [[AVal.int IntKind.i64 a, AVal.int IntKind.i64 m, AVal.slc b 1 2 0 n none, AVal.tt true]], AObj.rows true 2 rs] (AVal.bool true) [AObj.rows false 4 [[AVal.int IntKind.i64 a, AVal.int IntKind.i64 m, AVal.slc b 1 2 0 n none, AVal.tt true]], AObj.rows true 2 rs]]) by kernel_rfl) (allP_of (⟨rfl, rfl, rfl, rfl, rfl, rfl, rfl, rfl, rfl, rfl, rfl, rfl, rfl, rfl, rfl, rfl, rfl, rfl, rfl, rfl, rfl, rfl, rfl, rfl, rfl, rfl, rfl, rfl, rfl, rfl, rfl, rfl, rfl, rfl, rfl, rfl, ⟨h1, rfl, rfl, rfl⟩, trivial⟩))).move ([0, 1]) (by kernel_rfl) (by kernel_rfl) (by kernel_rfl)


theorem term_1 (a : Int) (m : Int) (l : Int) (i : Int) (b : Bool) (n : Nat) (rs : List (List AVal))
    (h1 : decide (i < a) = true)
    (h2 : FOk Try.prog 22 [AVal.ptr 0 4 0 0] [AObj.rows false 4 [[AVal.int IntKind.i64 a, AVal.int IntKind.i64 m, AVal.slc b 1 2 0 n none, AVal.tt true]], AObj.rows true 2 rs] (AVal.bool true) [AObj.rows false 4 [[AVal.int IntKind.i64 a, AVal.int IntKind.i64 m, AVal.slc b 1 2 0 n none, AVal.tt true]], AObj.rows true 2 rs]) :
    FOk Try.prog 11 ([logP, AVal.int IntKind.i64 i]) (LogO a m b n rs) (AVal.tuple [AVal.int IntKind.i64 0, AVal.int IntKind.i64 60]) ([AObj.rows false 4 [[AVal.int IntKind.i64 a, AVal.int IntKind.i64 m, AVal.slc b 1 2 0 n none, AVal.tt true]], AObj.rows true 2 rs]) :=
  (evalF_ok followed Try.func11 (by kernel_rfl) (show evalF Try.prog Try.f11 ([logP, AVal.int IntKind.i64 i]) (LogO a m b n rs) ([Dec.use [0, 1] [AVal.ptr 0 4 0 0] [AObj.rows false 4 [[AVal.int IntKind.i64 a, AVal.int IntKind.i64 m, AVal.slc b 1 2 0 n none, AVal.tt true]], AObj.rows true 2 rs] (AVal.bool true) [AObj.rows false 4 [[AVal.int IntKind.i64 a, AVal.int IntKind.i64 m, AVal.slc b 1 2 0 n none, AVal.tt true]], AObj.rows true 2 rs], Dec.br false, Dec.br true]) = .ok (FRes.mk (AVal.tuple [AVal.int IntKind.i64 0, AVal.int IntKind.i64 60]) ([AObj.rows false 4 [[AVal.int IntKind.i64 a, AVal.int IntKind.i64 m, AVal.slc b 1 2 0 n none, AVal.tt true]], AObj.rows true 2 rs]) [Brd (decide (i < a)) true,
    true = true,
    true = true,
    Brd false false,
    Owed.use (owed Try.prog 2) 22 [0, 1] [AVal.ptr 0 4 0 0] [AObj.rows false 4 [[AVal.int IntKind.i64 a, AVal.int IntKind.i64 m, AVal.slc b 1 2 0 n none, AVal.tt true]], AObj.rows true 2 rs] [AVal.ptr 0 4 0 0] [AObj.rows false 4 [[AVal.int IntKind.i64 a, AVal.int IntKind.i64 m, AVal.slc b 1 2 0 n none, AVal.tt true]], AObj.rows true 2 rs] (AVal.bool true) [AObj.rows false 4 [[AVal.int IntKind.i64 a, AVal.int IntKind.i64 m, AVal.slc b 1 2 0 n none, AVal.tt true]], AObj.rows true 2 rs]]) by kernel_rfl) (allP_of (⟨h1, rfl, rfl, rfl, ⟨h2, rfl, rfl, rfl⟩, trivial⟩))).move ([0, 1]) (by kernel_rfl) (by kernel_rfl) (by kernel_rfl)

theorem term_2 (a : Int) (m : Int) (l : Int) (i : Int) (b : Bool) (n : Nat) (rs : List (List AVal))
    (h1 : decide (i > l) = true)
    (h2 : FOk Try.prog 12 [AVal.ptr 0 4 0 0] [AObj.rows false 4 [[AVal.int IntKind.i64 a, AVal.int IntKind.i64 m, AVal.slc b 1 2 0 n none, AVal.tt true]], AObj.rows true 2 rs] (AVal.int IntKind.i64 l) [AObj.rows false 4 [[AVal.int IntKind.i64 a, AVal.int IntKind.i64 m, AVal.slc b 1 2 0 n none, AVal.tt true]], AObj.rows true 2 rs])
    (h3 : decide (i < a) = false)
    (h4 : FOk Try.prog 22 [AVal.ptr 0 4 0 0] [AObj.rows false 4 [[AVal.int IntKind.i64 a, AVal.int IntKind.i64 m, AVal.slc b 1 2 0 n none, AVal.tt true]], AObj.rows true 2 rs] (AVal.bool true) [AObj.rows false 4 [[AVal.int IntKind.i64 a, AVal.int IntKind.i64 m, AVal.slc b 1 2 0 n none, AVal.tt true]], AObj.rows true 2 rs]) :
    FOk Try.prog 11 ([logP, AVal.int IntKind.i64 i]) (LogO a m b n rs) (AVal.tuple [AVal.int IntKind.i64 0, AVal.int IntKind.i64 3]) ([AObj.rows false 4 [[AVal.int IntKind.i64 a, AVal.int IntKind.i64 m, AVal.slc b 1 2 0 n none, AVal.tt true]], AObj.rows true 2 rs]) :=
  (evalF_ok followed Try.func11 (by kernel_rfl) (show evalF Try.prog Try.f11 ([logP, AVal.int IntKind.i64 i]) (LogO a m b n rs) ([Dec.use [0, 1] [AVal.ptr 0 4 0 0] [AObj.rows false 4 [[AVal.int IntKind.i64 a, AVal.int IntKind.i64 m, AVal.slc b 1 2 0 n none, AVal.tt true]], AObj.rows true 2 rs] (AVal.bool true) [AObj.rows false 4 [[AVal.int IntKind.i64 a, AVal.int IntKind.i64 m, AVal.slc b 1 2 0 n none, AVal.tt true]], AObj.rows true 2 rs], Dec.br false, Dec.br false, Dec.use [0, 1] [AVal.ptr 0 4 0 0] [AObj.rows false 4 [[AVal.int IntKind.i64 a, AVal.int IntKind.i64 m, AVal.slc b 1 2 0 n none, AVal.tt true]], AObj.rows true 2 rs] (AVal.int IntKind.i64 l) [AObj.rows false 4 [[AVal.int IntKind.i64 a, AVal.int IntKind.i64 m, AVal.slc b 1 2 0 n none, AVal.tt true]], AObj.rows true 2 rs], Dec.br true]) = .ok (FRes.mk (AVal.tuple [AVal.int IntKind.i64 0, AVal.int IntKind.i64 3]) ([AObj.rows false 4 [[AVal.int IntKind.i64 a, AVal.int IntKind.i64 m, AVal.slc b 1 2 0 n none, AVal.tt true]], AObj.rows true 2 rs]) [Brd (decide (i > l)) true,
    Owed.use (owed Try.prog 2) 12 [0, 1] [AVal.ptr 0 4 0 0] [AObj.rows false 4 [[AVal.int IntKind.i64 a, AVal.int IntKind.i64 m, AVal.slc b 1 2 0 n none, AVal.tt true]], AObj.rows true 2 rs] [AVal.ptr 0 4 0 0] [AObj.rows false 4 [[AVal.int IntKind.i64 a, AVal.int IntKind.i64 m, AVal.slc b 1 2 0 n none, AVal.tt true]], AObj.rows true 2 rs] (AVal.int IntKind.i64 l) [AObj.rows false 4 [[AVal.int IntKind.i64 a, AVal.int IntKind.i64 m, AVal.slc b 1 2 0 n none, AVal.tt true]], AObj.rows true 2 rs],
    Brd (decide (i < a)) false,
    true = true,
    true = true,
    Brd false false,
    Owed.use (owed Try.prog 2) 22 [0, 1] [AVal.ptr 0 4 0 0] [AObj.rows false 4 [[AVal.int IntKind.i64 a, AVal.int IntKind.i64 m, AVal.slc b 1 2 0 n none, AVal.tt true]], AObj.rows true 2 rs] [AVal.ptr 0 4 0 0] [AObj.rows false 4 [[AVal.int IntKind.i64 a, AVal.int IntKind.i64 m, AVal.slc b 1 2 0 n none, AVal.tt true]], AObj.rows true 2 rs] (AVal.bool true) [AObj.rows false 4 [[AVal.int IntKind.i64 a, AVal.int IntKind.i64 m, AVal.slc b 1 2 0 n none, AVal.tt true]], AObj.rows true 2 rs]]) by kernel_rfl) (allP_of (⟨h1, ⟨h2, rfl, rfl, rfl⟩, h3, rfl, rfl, rfl, ⟨h4, rfl, rfl, rfl⟩, trivial⟩))).move ([0, 1]) (by kernel_rfl) (by kernel_rfl) (by kernel_rfl)

theorem term_3 (a : Int) (m : Int) (l : Int) (i : Int) (b : Bool) (n : Nat) (rs : List (List AVal))
    (h1 : (i == a) = true)
    (h2 : decide (i > l) = false)
    (h3 : FOk Try.prog 12 [AVal.ptr 0 4 0 0] [AObj.rows false 4 [[AVal.int IntKind.i64 a, AVal.int IntKind.i64 m, AVal.slc b 1 2 0 n none, AVal.tt true]], AObj.rows true 2 rs] (AVal.int IntKind.i64 l) [AObj.rows false 4 [[AVal.int IntKind.i64 a, AVal.int IntKind.i64 m, AVal.slc b 1 2 0 n none, AVal.tt true]], AObj.rows true 2 rs])
    (h4 : decide (i < a) = false)
    (h5 : FOk Try.prog 22 [AVal.ptr 0 4 0 0] [AObj.rows false 4 [[AVal.int IntKind.i64 a, AVal.int IntKind.i64 m, AVal.slc b 1 2 0 n none, AVal.tt true]], AObj.rows true 2 rs] (AVal.bool true) [AObj.rows false 4 [[AVal.int IntKind.i64 a, AVal.int IntKind.i64 m, AVal.slc b 1 2 0 n none, AVal.tt true]], AObj.rows true 2 rs]) :
    FOk Try.prog 11 ([logP, AVal.int IntKind.i64 i]) (LogO a m b n rs) (AVal.tuple [AVal.int IntKind.i64 m, AVal.int IntKind.i64 0]) ([AObj.rows false 4 [[AVal.int IntKind.i64 a, AVal.int IntKind.i64 m, AVal.slc b 1 2 0 n none, AVal.tt true]], AObj.rows true 2 rs]) :=
  (evalF_ok followed Try.func11 (by kernel_rfl) (show evalF Try.prog Try.f11 ([logP, AVal.int IntKind.i64 i]) (LogO a m b n rs) ([Dec.use [0, 1] [AVal.ptr 0 4 0 0] [AObj.rows false 4 [[AVal.int IntKind.i64 a, AVal.int IntKind.i64 m, AVal.slc b 1 2 0 n none, AVal.tt true]], AObj.rows true 2 rs] (AVal.bool true) [AObj.rows false 4 [[AVal.int IntKind.i64 a, AVal.int IntKind.i64 m, AVal.slc b 1 2 0 n none, AVal.tt true]], AObj.rows true 2 rs], Dec.br false, Dec.br false, Dec.use [0, 1] [AVal.ptr 0 4 0 0] [AObj.rows false 4 [[AVal.int IntKind.i64 a, AVal.int IntKind.i64 m, AVal.slc b 1 2 0 n none, AVal.tt true]], AObj.rows true 2 rs] (AVal.int IntKind.i64 l) [AObj.rows false 4 [[AVal.int IntKind.i64 a, AVal.int IntKind.i64 m, AVal.slc b 1 2 0 n none, AVal.tt true]], AObj.rows true 2 rs], Dec.br false, Dec.br true]) = .ok (FRes.mk (AVal.tuple [AVal.int IntKind.i64 m, AVal.int IntKind.i64 0]) ([AObj.rows false 4 [[AVal.int IntKind.i64 a, AVal.int IntKind.i64 m, AVal.slc b 1 2 0 n none, AVal.tt true]], AObj.rows true 2 rs]) [true = true,
    true = true,
    Brd (i == a) true,
    true = true,
    true = true,
    Brd (decide (i > l)) false,
    Owed.use (owed Try.prog 2) 12 [0, 1] [AVal.ptr 0 4 0 0] [AObj.rows false 4 [[AVal.int IntKind.i64 a, AVal.int IntKind.i64 m, AVal.slc b 1 2 0 n none, AVal.tt true]], AObj.rows true 2 rs] [AVal.ptr 0 4 0 0] [AObj.rows false 4 [[AVal.int IntKind.i64 a, AVal.int IntKind.i64 m, AVal.slc b 1 2 0 n none, AVal.tt true]], AObj.rows true 2 rs] (AVal.int IntKind.i64 l) [AObj.rows false 4 [[AVal.int IntKind.i64 a, AVal.int IntKind.i64 m, AVal.slc b 1 2 0 n none, AVal.tt true]], AObj.rows true 2 rs],
    Brd (decide (i < a)) false,
    true = true,
    true = true,
    Brd false false,
    Owed.use (owed Try.prog 2) 22 [0, 1] [AVal.ptr 0 4 0 0] [AObj.rows false 4 [[AVal.int IntKind.i64 a, AVal.int IntKind.i64 m, AVal.slc b 1 2 0 n none, AVal.tt true]], AObj.rows true 2 rs] [AVal.ptr 0 4 0 0] [AObj.rows false 4 [[AVal.int IntKind.i64 a, AVal.int IntKind.i64 m, AVal.slc b 1 2 0 n none, AVal.tt true]], AObj.rows true 2 rs] (AVal.bool true) [AObj.rows false 4 [[AVal.int IntKind.i64 a, AVal.int IntKind.i64 m, AVal.slc b 1 2 0 n none, AVal.tt true]], AObj.rows true 2 rs]]) by kernel_rfl) (allP_of (⟨rfl, rfl, h1, rfl, rfl, h2, ⟨h3, rfl, rfl, rfl⟩, h4, rfl, rfl, rfl, ⟨h5, rfl, rfl, rfl⟩, trivial⟩))).move ([0, 1]) (by kernel_rfl) (by kernel_rfl) (by kernel_rfl)

theorem term_4 (a : Int) (m : Int) (l : Int) (i : Int) (b : Bool) (n : Nat) (rs : List (List AVal))
    (h1 : decide (Int.toNat (IntKind.wrap IntKind.i64 (IntKind.wrap IntKind.i64 (i - a) - 1)) + 0 < List.length rs) = true)
    (h2 : areKinds [kindOf Try.prog 3] [List.getD (List.getD rs (Int.toNat (IntKind.wrap IntKind.i64 (IntKind.wrap IntKind.i64 (i - a) - 1)) + 0) []) 0 AVal.any] = true)
    (h3 : decide (0 ≤ IntKind.wrap IntKind.i64 (IntKind.wrap IntKind.i64 (i - a) - 1) ∧ IntKind.wrap IntKind.i64 (IntKind.wrap IntKind.i64 (i - a) - 1) < (↑n : Int)) = true)
    (h4 : (i == a) = false)
    (h5 : decide (i > l) = false)
    (h6 : FOk Try.prog 12 [AVal.ptr 0 4 0 0] [AObj.rows false 4 [[AVal.int IntKind.i64 a, AVal.int IntKind.i64 m, AVal.slc b 1 2 0 n none, AVal.tt true]], AObj.rows true 2 rs] (AVal.int IntKind.i64 l) [AObj.rows false 4 [[AVal.int IntKind.i64 a, AVal.int IntKind.i64 m, AVal.slc b 1 2 0 n none, AVal.tt true]], AObj.rows true 2 rs])
    (h7 : decide (i < a) = false)
    (h8 : FOk Try.prog 22 [AVal.ptr 0 4 0 0] [AObj.rows false 4 [[AVal.int IntKind.i64 a, AVal.int IntKind.i64 m, AVal.slc b 1 2 0 n none, AVal.tt true]], AObj.rows true 2 rs] (AVal.bool true) [AObj.rows false 4 [[AVal.int IntKind.i64 a, AVal.int IntKind.i64 m, AVal.slc b 1 2 0 n none, AVal.tt true]], AObj.rows true 2 rs]) :
    FOk Try.prog 11 ([logP, AVal.int IntKind.i64 i]) (LogO a m b n rs) (AVal.tuple [AVal.int IntKind.i64 (AVal.toInt (List.getD (List.getD rs (Int.toNat (IntKind.wrap IntKind.i64 (IntKind.wrap IntKind.i64 (i - a) - 1)) + 0) []) 0 AVal.any)), AVal.int IntKind.i64 0]) ([AObj.rows false 4 [[AVal.int IntKind.i64 a, AVal.int IntKind.i64 m, AVal.slc b 1 2 0 n none, AVal.tt true]], AObj.rows true 2 rs]) :=
  (evalF_ok followed Try.func11 (by kernel_rfl) (show evalF Try.prog Try.f11 ([logP, AVal.int IntKind.i64 i]) (LogO a m b n rs) ([Dec.use [0, 1] [AVal.ptr 0 4 0 0] [AObj.rows false 4 [[AVal.int IntKind.i64 a, AVal.int IntKind.i64 m, AVal.slc b 1 2 0 n none, AVal.tt true]], AObj.rows true 2 rs] (AVal.bool true) [AObj.rows false 4 [[AVal.int IntKind.i64 a, AVal.int IntKind.i64 m, AVal.slc b 1 2 0 n none, AVal.tt true]], AObj.rows true 2 rs], Dec.br false, Dec.br false, Dec.use [0, 1] [AVal.ptr 0 4 0 0] [AObj.rows false 4 [[AVal.int IntKind.i64 a, AVal.int IntKind.i64 m, AVal.slc b 1 2 0 n none, AVal.tt true]], AObj.rows true 2 rs] (AVal.int IntKind.i64 l) [AObj.rows false 4 [[AVal.int IntKind.i64 a, AVal.int IntKind.i64 m, AVal.slc b 1 2 0 n none, AVal.tt true]], AObj.rows true 2 rs], Dec.br false, Dec.br false]) = .ok (FRes.mk (AVal.tuple [AVal.int IntKind.i64 (AVal.toInt (List.getD (List.getD rs (Int.toNat (IntKind.wrap IntKind.i64 (IntKind.wrap IntKind.i64 (i - a) - 1)) + 0) []) 0 AVal.any)), AVal.int IntKind.i64 0]) ([AObj.rows false 4 [[AVal.int IntKind.i64 a, AVal.int IntKind.i64 m, AVal.slc b 1 2 0 n none, AVal.tt true]], AObj.rows true 2 rs]) [true = true,
    true = true,
    true = true,
    true = true,
    true = true,
    true = true,
    decide (Int.toNat (IntKind.wrap IntKind.i64 (IntKind.wrap IntKind.i64 (i - a) - 1)) + 0 < List.length rs) = true,
    true = true,
    areKinds [kindOf Try.prog 3] [List.getD (List.getD rs (Int.toNat (IntKind.wrap IntKind.i64 (IntKind.wrap IntKind.i64 (i - a) - 1)) + 0) []) 0 AVal.any] = true,
    true = true,
    true = true,
    true = true,
    true = true,
    decide (0 ≤ IntKind.wrap IntKind.i64 (IntKind.wrap IntKind.i64 (i - a) - 1) ∧ IntKind.wrap IntKind.i64 (IntKind.wrap IntKind.i64 (i - a) - 1) < (↑n : Int)) = true,
    true = true,
    true = true,
    true = true,
    true = true,
    true = true,
    true = true,
    true = true,
    true = true,
    true = true,
    true = true,
    true = true,
    true = true,
    true = true,
    true = true,
    true = true,
    true = true,
    true = true,
    true = true,
    true = true,
    true = true,
    true = true,
    true = true,
    true = true,
    true = true,
    true = true,
    true = true,
    true = true,
    true = true,
    true = true,
    true = true,
    true = true,
    true = true,
    Brd (i == a) false,
    true = true,
    true = true,
    Brd (decide (i > l)) false,
    Owed.use (owed Try.prog 2) 12 [0, 1] [AVal.ptr 0 4 0 0] [AObj.rows false 4 [[AVal.int IntKind.i64 a, AVal.int IntKind.i64 m, AVal.slc b 1 2 0 n none, AVal.tt true]], AObj.rows true 2 rs] [AVal.ptr 0 4 0 0] [AObj.rows false 4 [[AVal.int IntKind.i64 a, AVal.int IntKind.i64 m, AVal.slc b 1 2 0 n none, AVal.tt true]], AObj.rows true 2 rs] (AVal.int IntKind.i64 l) [AObj.rows false 4 [[AVal.int IntKind.i64 a, AVal.int IntKind.i64 m, AVal.slc b 1 2 0 n none, AVal.tt true]], AObj.rows true 2 rs],
    Brd (decide (i < a)) false,
    true = true,
    true = true,
    Brd false false,
    Owed.use (owed Try.prog 2) 22 [0, 1] [AVal.ptr 0 4 0 0] [AObj.rows false 4 [[AVal.int IntKind.i64 a, AVal.int IntKind.i64 m, AVal.slc b 1 2 0 n none, AVal.tt true]], AObj.rows true 2 rs] [AVal.ptr 0 4 0 0] [AObj.rows false 4 [[AVal.int IntKind.i64 a, AVal.int IntKind.i64 m, AVal.slc b 1 2 0 n none, AVal.tt true]], AObj.rows true 2 rs] (AVal.bool true) [AObj.rows false 4 [[AVal.int IntKind.i64 a, AVal.int IntKind.i64 m, AVal.slc b 1 2 0 n none, AVal.tt true]], AObj.rows true 2 rs]]) by kernel_rfl) (allP_of (⟨rfl, rfl, rfl, rfl, rfl, rfl, h1, rfl, h2, rfl, rfl, rfl, rfl, h3, rfl, rfl, rfl, rfl, rfl, rfl, rfl, rfl, rfl, rfl, rfl, rfl, rfl, rfl, rfl, rfl, rfl, rfl, rfl, rfl, rfl, rfl, rfl, rfl, rfl, rfl, rfl, rfl, rfl, rfl, rfl, rfl, h4, rfl, rfl, h5, ⟨h6, rfl, rfl, rfl⟩, h7, rfl, rfl, rfl, ⟨h8, rfl, rfl, rfl⟩, trivial⟩))).move ([0, 1]) (by kernel_rfl) (by kernel_rfl) (by kernel_rfl)


theorem entry_1 (a : Int) (m : Int) (l : Int) (i : Int) (b : Bool) (n : Nat) (rs : List (List AVal))
    (h1 : decide (i ≤ a) = true)
    (h2 : FOk Try.prog 22 [AVal.ptr 0 4 0 0] [AObj.rows false 4 [[AVal.int IntKind.i64 a, AVal.int IntKind.i64 m, AVal.slc b 1 2 0 n none, AVal.tt true]], AObj.rows true 2 rs] (AVal.bool true) [AObj.rows false 4 [[AVal.int IntKind.i64 a, AVal.int IntKind.i64 m, AVal.slc b 1 2 0 n none, AVal.tt true]], AObj.rows true 2 rs]) :
    FOk Try.prog 16 ([logP, AVal.int IntKind.i64 i]) (LogO a m b n rs) (AVal.tuple [AVal.agg [AVal.int IntKind.i64 0, AVal.str (ByteArray.mk #[])], AVal.int IntKind.i64 60]) ([AObj.rows false 4 [[AVal.int IntKind.i64 a, AVal.int IntKind.i64 m, AVal.slc b 1 2 0 n none, AVal.tt true]], AObj.rows true 2 rs]) :=
  (evalF_ok followed Try.func16 (by kernel_rfl) (show evalF Try.prog Try.f16 ([logP, AVal.int IntKind.i64 i]) (LogO a m b n rs) ([Dec.use [0, 1] [AVal.ptr 0 4 0 0] [AObj.rows false 4 [[AVal.int IntKind.i64 a, AVal.int IntKind.i64 m, AVal.slc b 1 2 0 n none, AVal.tt true]], AObj.rows true 2 rs] (AVal.bool true) [AObj.rows false 4 [[AVal.int IntKind.i64 a, AVal.int IntKind.i64 m, AVal.slc b 1 2 0 n none, AVal.tt true]], AObj.rows true 2 rs], Dec.br false, Dec.br true]) = .ok (FRes.mk (AVal.tuple [AVal.agg [AVal.int IntKind.i64 0, AVal.str (ByteArray.mk #[])], AVal.int IntKind.i64 60]) ([AObj.rows false 4 [[AVal.int IntKind.i64 a, AVal.int IntKind.i64 m, AVal.slc b 1 2 0 n none, AVal.tt true]], AObj.rows true 2 rs, AObj.rows true 2 [[AVal.int IntKind.i64 0, AVal.str (ByteArray.mk #[])]]]) [true = true,
    true = true,
    true = true,
    true = true,
    true = true,
    Brd (decide (i ≤ a)) true,
    true = true,
    true = true,
    Brd false false,
    Owed.use (owed Try.prog 2) 22 [0, 1] [AVal.ptr 0 4 0 0] [AObj.rows false 4 [[AVal.int IntKind.i64 a, AVal.int IntKind.i64 m, AVal.slc b 1 2 0 n none, AVal.tt true]], AObj.rows true 2 rs, AObj.rows true 2 [[AVal.int IntKind.i64 0, AVal.str (ByteArray.mk #[])]]] [AVal.ptr 0 4 0 0] [AObj.rows false 4 [[AVal.int IntKind.i64 a, AVal.int IntKind.i64 m, AVal.slc b 1 2 0 n none, AVal.tt true]], AObj.rows true 2 rs] (AVal.bool true) [AObj.rows false 4 [[AVal.int IntKind.i64 a, AVal.int IntKind.i64 m, AVal.slc b 1 2 0 n none, AVal.tt true]], AObj.rows true 2 rs]]) by kernel_rfl) (allP_of (⟨rfl, rfl, rfl, rfl, rfl, h1, rfl, rfl, rfl, ⟨h2, rfl, rfl, rfl⟩, trivial⟩))).move ([0, 1]) (by kernel_rfl) (by kernel_rfl) (by kernel_rfl)

theorem entry_2 (a : Int) (m : Int) (l : Int) (i : Int) (b : Bool) (n : Nat) (rs : List (List AVal))
    (h1 : decide (i > l) = true)
    (h2 : FOk Try.prog 12 [AVal.ptr 0 4 0 0] [AObj.rows false 4 [[AVal.int IntKind.i64 a, AVal.int IntKind.i64 m, AVal.slc b 1 2 0 n none, AVal.tt true]], AObj.rows true 2 rs] (AVal.int IntKind.i64 l) [AObj.rows false 4 [[AVal.int IntKind.i64 a, AVal.int IntKind.i64 m, AVal.slc b 1 2 0 n none, AVal.tt true]], AObj.rows true 2 rs])
    (h3 : decide (i ≤ a) = false)
    (h4 : FOk Try.prog 22 [AVal.ptr 0 4 0 0] [AObj.rows false 4 [[AVal.int IntKind.i64 a, AVal.int IntKind.i64 m, AVal.slc b 1 2 0 n none, AVal.tt true]], AObj.rows true 2 rs] (AVal.bool true) [AObj.rows false 4 [[AVal.int IntKind.i64 a, AVal.int IntKind.i64 m, AVal.slc b 1 2 0 n none, AVal.tt true]], AObj.rows true 2 rs]) :
    FOk Try.prog 16 ([logP, AVal.int IntKind.i64 i]) (LogO a m b n rs) (AVal.tuple [AVal.agg [AVal.int IntKind.i64 0, AVal.str (ByteArray.mk #[])], AVal.int IntKind.i64 3]) ([AObj.rows false 4 [[AVal.int IntKind.i64 a, AVal.int IntKind.i64 m, AVal.slc b 1 2 0 n none, AVal.tt true]], AObj.rows true 2 rs]) :=
  (evalF_ok followed Try.func16 (by kernel_rfl) (show evalF Try.prog Try.f16 ([logP, AVal.int IntKind.i64 i]) (LogO a m b n rs) ([Dec.use [0, 1] [AVal.ptr 0 4 0 0] [AObj.rows false 4 [[AVal.int IntKind.i64 a, AVal.int IntKind.i64 m, AVal.slc b 1 2 0 n none, AVal.tt true]], AObj.rows true 2 rs] (AVal.bool true) [AObj.rows false 4 [[AVal.int IntKind.i64 a, AVal.int IntKind.i64 m, AVal.slc b 1 2 0 n none, AVal.tt true]], AObj.rows true 2 rs], Dec.br false, Dec.br false, Dec.use [0, 1] [AVal.ptr 0 4 0 0] [AObj.rows false 4 [[AVal.int IntKind.i64 a, AVal.int IntKind.i64 m, AVal.slc b 1 2 0 n none, AVal.tt true]], AObj.rows true 2 rs] (AVal.int IntKind.i64 l) [AObj.rows false 4 [[AVal.int IntKind.i64 a, AVal.int IntKind.i64 m, AVal.slc b 1 2 0 n none, AVal.tt true]], AObj.rows true 2 rs], Dec.br true]) = .ok (FRes.mk (AVal.tuple [AVal.agg [AVal.int IntKind.i64 0, AVal.str (ByteArray.mk #[])], AVal.int IntKind.i64 3]) ([AObj.rows false 4 [[AVal.int IntKind.i64 a, AVal.int IntKind.i64 m, AVal.slc b 1 2 0 n none, AVal.tt true]], AObj.rows true 2 rs, AObj.rows true 2 [[AVal.int IntKind.i64 0, AVal.str (ByteArray.mk #[])]]]) [true = true,
    true = true,
    true = true,
    true = true,
    true = true,
    Brd (decide (i > l)) true,
    Owed.use (owed Try.prog 2) 12 [0, 1] [AVal.ptr 0 4 0 0] [AObj.rows false 4 [[AVal.int IntKind.i64 a, AVal.int IntKind.i64 m, AVal.slc b 1 2 0 n none, AVal.tt true]], AObj.rows true 2 rs, AObj.rows true 2 [[AVal.int IntKind.i64 0, AVal.str (ByteArray.mk #[])]]] [AVal.ptr 0 4 0 0] [AObj.rows false 4 [[AVal.int IntKind.i64 a, AVal.int IntKind.i64 m, AVal.slc b 1 2 0 n none, AVal.tt true]], AObj.rows true 2 rs] (AVal.int IntKind.i64 l) [AObj.rows false 4 [[AVal.int IntKind.i64 a, AVal.int IntKind.i64 m, AVal.slc b 1 2 0 n none, AVal.tt true]], AObj.rows true 2 rs],
    Brd (decide (i ≤ a)) false,
    true = true,
    true = true,
    Brd false false,
    Owed.use (owed Try.prog 2) 22 [0, 1] [AVal.ptr 0 4 0 0] [AObj.rows false 4 [[AVal.int IntKind.i64 a, AVal.int IntKind.i64 m, AVal.slc b 1 2 0 n none, AVal.tt true]], AObj.rows true 2 rs, AObj.rows true 2 [[AVal.int IntKind.i64 0, AVal.str (ByteArray.mk #[])]]] [AVal.ptr 0 4 0 0] [AObj.rows false 4 [[AVal.int IntKind.i64 a, AVal.int IntKind.i64 m, AVal.slc b 1 2 0 n none, AVal.tt true]], AObj.rows true 2 rs] (AVal.bool true) [AObj.rows false 4 [[AVal.int IntKind.i64 a, AVal.int IntKind.i64 m, AVal.slc b 1 2 0 n none, AVal.tt true]], AObj.rows true 2 rs]]) by kernel_rfl) (allP_of (⟨rfl, rfl, rfl, rfl, rfl, h1, ⟨h2, rfl, rfl, rfl⟩, h3, rfl, rfl, rfl, ⟨h4, rfl, rfl, rfl⟩, trivial⟩))).move ([0, 1]) (by kernel_rfl) (by kernel_rfl) (by kernel_rfl)

theorem entry_3 (a : Int) (m : Int) (l : Int) (i : Int) (b : Bool) (n : Nat) (rs : List (List AVal))
    (h1 : decide (Int.toNat (IntKind.wrap IntKind.i64 (IntKind.wrap IntKind.i64 (i - a) - 1)) + 0 < List.length rs) = true)
    (h2 : areKinds [kindOf Try.prog 3, kindOf Try.prog 9] [List.getD (List.getD rs (Int.toNat (IntKind.wrap IntKind.i64 (IntKind.wrap IntKind.i64 (i - a) - 1)) + 0) []) 0 AVal.any, List.getD (List.getD rs (Int.toNat (IntKind.wrap IntKind.i64 (IntKind.wrap IntKind.i64 (i - a) - 1)) + 0) []) 1 AVal.any] = true)
    (h3 : decide (0 ≤ IntKind.wrap IntKind.i64 (IntKind.wrap IntKind.i64 (i - a) - 1) ∧ IntKind.wrap IntKind.i64 (IntKind.wrap IntKind.i64 (i - a) - 1) < (↑n : Int)) = true)
    (h4 : decide (i > l) = false)
    (h5 : FOk Try.prog 12 [AVal.ptr 0 4 0 0] [AObj.rows false 4 [[AVal.int IntKind.i64 a, AVal.int IntKind.i64 m, AVal.slc b 1 2 0 n none, AVal.tt true]], AObj.rows true 2 rs] (AVal.int IntKind.i64 l) [AObj.rows false 4 [[AVal.int IntKind.i64 a, AVal.int IntKind.i64 m, AVal.slc b 1 2 0 n none, AVal.tt true]], AObj.rows true 2 rs])
    (h6 : decide (i ≤ a) = false)
    (h7 : FOk Try.prog 22 [AVal.ptr 0 4 0 0] [AObj.rows false 4 [[AVal.int IntKind.i64 a, AVal.int IntKind.i64 m, AVal.slc b 1 2 0 n none, AVal.tt true]], AObj.rows true 2 rs] (AVal.bool true) [AObj.rows false 4 [[AVal.int IntKind.i64 a, AVal.int IntKind.i64 m, AVal.slc b 1 2 0 n none, AVal.tt true]], AObj.rows true 2 rs]) :
    FOk Try.prog 16 ([logP, AVal.int IntKind.i64 i]) (LogO a m b n rs) (AVal.tuple [AVal.agg [AVal.int IntKind.i64 (AVal.toInt (List.getD (List.getD rs (Int.toNat (IntKind.wrap IntKind.i64 (IntKind.wrap IntKind.i64 (i - a) - 1)) + 0) []) 0 AVal.any)), AVal.str (AVal.toStr (List.getD (List.getD rs (Int.toNat (IntKind.wrap IntKind.i64 (IntKind.wrap IntKind.i64 (i - a) - 1)) + 0) []) 1 AVal.any))], AVal.int IntKind.i64 0]) ([AObj.rows false 4 [[AVal.int IntKind.i64 a, AVal.int IntKind.i64 m, AVal.slc b 1 2 0 n none, AVal.tt true]], AObj.rows true 2 rs]) :=
  (evalF_ok followed Try.func16 (by kernel_rfl) (show evalF Try.prog Try.f16 ([logP, AVal.int IntKind.i64 i]) (LogO a m b n rs) ([Dec.use [0, 1] [AVal.ptr 0 4 0 0] [AObj.rows false 4 [[AVal.int IntKind.i64 a, AVal.int IntKind.i64 m, AVal.slc b 1 2 0 n none, AVal.tt true]], AObj.rows true 2 rs] (AVal.bool true) [AObj.rows false 4 [[AVal.int IntKind.i64 a, AVal.int IntKind.i64 m, AVal.slc b 1 2 0 n none, AVal.tt true]], AObj.rows true 2 rs], Dec.br false, Dec.br false, Dec.use [0, 1] [AVal.ptr 0 4 0 0] [AObj.rows false 4 [[AVal.int IntKind.i64 a, AVal.int IntKind.i64 m, AVal.slc b 1 2 0 n none, AVal.tt true]], AObj.rows true 2 rs] (AVal.int IntKind.i64 l) [AObj.rows false 4 [[AVal.int IntKind.i64 a, AVal.int IntKind.i64 m, AVal.slc b 1 2 0 n none, AVal.tt true]], AObj.rows true 2 rs], Dec.br false]) = .ok (FRes.mk (AVal.tuple [AVal.agg [AVal.int IntKind.i64 (AVal.toInt (List.getD (List.getD rs (Int.toNat (IntKind.wrap IntKind.i64 (IntKind.wrap IntKind.i64 (i - a) - 1)) + 0) []) 0 AVal.any)), AVal.str (AVal.toStr (List.getD (List.getD rs (Int.toNat (IntKind.wrap IntKind.i64 (IntKind.wrap IntKind.i64 (i - a) - 1)) + 0) []) 1 AVal.any))], AVal.int IntKind.i64 0]) ([AObj.rows false 4 [[AVal.int IntKind.i64 a, AVal.int IntKind.i64 m, AVal.slc b 1 2 0 n none, AVal.tt true]], AObj.rows true 2 rs, AObj.rows true 2 [[AVal.int IntKind.i64 (AVal.toInt (List.getD (List.getD rs (Int.toNat (IntKind.wrap IntKind.i64 (IntKind.wrap IntKind.i64 (i - a) - 1)) + 0) []) 0 AVal.any)), AVal.str (AVal.toStr (List.getD (List.getD rs (Int.toNat (IntKind.wrap IntKind.i64 (IntKind.wrap IntKind.i64 (i - a) - 1)) + 0) []) 1 AVal.any))]]]) [true = true,
    true = true,
    true = true,
    true = true,
    true = true,
    true = true,
    true = true,
    true = true,
    true = true,
    true = true,
    true = true,
    decide (Int.toNat (IntKind.wrap IntKind.i64 (IntKind.wrap IntKind.i64 (i - a) - 1)) + 0 < List.length rs) = true,
    true = true,
    areKinds [kindOf Try.prog 3, kindOf Try.prog 9] [List.getD (List.getD rs (Int.toNat (IntKind.wrap IntKind.i64 (IntKind.wrap IntKind.i64 (i - a) - 1)) + 0) []) 0 AVal.any, List.getD (List.getD rs (Int.toNat (IntKind.wrap IntKind.i64 (IntKind.wrap IntKind.i64 (i - a) - 1)) + 0) []) 1 AVal.any] = true,
    true = true,
    true = true,
    decide (0 ≤ IntKind.wrap IntKind.i64 (IntKind.wrap IntKind.i64 (i - a) - 1) ∧ IntKind.wrap IntKind.i64 (IntKind.wrap IntKind.i64 (i - a) - 1) < (↑n : Int)) = true,
    true = true,
    true = true,
    true = true,
    true = true,
    true = true,
    true = true,
    true = true,
    true = true,
    true = true,
    true = true,
    true = true,
    true = true,
    true = true,
    true = true,
    true = true,
    true = true,
    true = true,
    true = true,
    true = true,
    true = true,
    true = true,
    true = true,
    true = true,
    true = true,
    true = true,
    true = true,
    true = true,
    true = true,
    true = true,
    true = true,
    true = true,
    true = true,
    Brd (decide (i > l)) false,
    Owed.use (owed Try.prog 2) 12 [0, 1] [AVal.ptr 0 4 0 0] [AObj.rows false 4 [[AVal.int IntKind.i64 a, AVal.int IntKind.i64 m, AVal.slc b 1 2 0 n none, AVal.tt true]], AObj.rows true 2 rs, AObj.rows true 2 [[AVal.int IntKind.i64 0, AVal.str (ByteArray.mk #[])]]] [AVal.ptr 0 4 0 0] [AObj.rows false 4 [[AVal.int IntKind.i64 a, AVal.int IntKind.i64 m, AVal.slc b 1 2 0 n none, AVal.tt true]], AObj.rows true 2 rs] (AVal.int IntKind.i64 l) [AObj.rows false 4 [[AVal.int IntKind.i64 a, AVal.int IntKind.i64 m, AVal.slc b 1 2 0 n none, AVal.tt true]], AObj.rows true 2 rs],
    Brd (decide (i ≤ a)) false,
    true = true,
    true = true,
    Brd false false,
    Owed.use (owed Try.prog 2) 22 [0, 1] [AVal.ptr 0 4 0 0] [AObj.rows false 4 [[AVal.int IntKind.i64 a, AVal.int IntKind.i64 m, AVal.slc b 1 2 0 n none, AVal.tt true]], AObj.rows true 2 rs, AObj.rows true 2 [[AVal.int IntKind.i64 0, AVal.str (ByteArray.mk #[])]]] [AVal.ptr 0 4 0 0] [AObj.rows false 4 [[AVal.int IntKind.i64 a, AVal.int IntKind.i64 m, AVal.slc b 1 2 0 n none, AVal.tt true]], AObj.rows true 2 rs] (AVal.bool true) [AObj.rows false 4 [[AVal.int IntKind.i64 a, AVal.int IntKind.i64 m, AVal.slc b 1 2 0 n none, AVal.tt true]], AObj.rows true 2 rs]]) by kernel_rfl) (allP_of (⟨rfl, rfl, rfl, rfl, rfl, rfl, rfl, rfl, rfl, rfl, rfl, h1, rfl, h2, rfl, rfl, h3, rfl, rfl, rfl, rfl, rfl, rfl, rfl, rfl, rfl, rfl, rfl, rfl, rfl, rfl, rfl, rfl, rfl, rfl, rfl, rfl, rfl, rfl, rfl, rfl, rfl, rfl, rfl, rfl, rfl, rfl, rfl, rfl, h4, ⟨h5, rfl, rfl, rfl⟩, h6, rfl, rfl, rfl, ⟨h7, rfl, rfl, rfl⟩, trivial⟩))).move ([0, 1]) (by kernel_rfl) (by kernel_rfl) (by kernel_rfl)


theorem endT_1 (a : Int) (m : Int) (l : Int) (t : Int) (e : Int) (b : Bool) (n : Nat) (rs : List (List AVal))
    (h1 : FOk Try.prog 11 [AVal.ptr 0 4 0 0, AVal.int IntKind.i64 l] [AObj.rows false 4 [[AVal.int IntKind.i64 a, AVal.int IntKind.i64 m, AVal.slc b 1 2 0 n none, AVal.tt true]], AObj.rows true 2 rs] (AVal.tuple [AVal.int IntKind.i64 t, AVal.int IntKind.i64 e]) [AObj.rows false 4 [[AVal.int IntKind.i64 a, AVal.int IntKind.i64 m, AVal.slc b 1 2 0 n none, AVal.tt true]], AObj.rows true 2 rs])
    (h2 : FOk Try.prog 12 [AVal.ptr 0 4 0 0] [AObj.rows false 4 [[AVal.int IntKind.i64 a, AVal.int IntKind.i64 m, AVal.slc b 1 2 0 n none, AVal.tt true]], AObj.rows true 2 rs] (AVal.int IntKind.i64 l) [AObj.rows false 4 [[AVal.int IntKind.i64 a, AVal.int IntKind.i64 m, AVal.slc b 1 2 0 n none, AVal.tt true]], AObj.rows true 2 rs]) :
    FOk Try.prog 23 ([logP]) (LogO a m b n rs) (AVal.int IntKind.i64 t) ([AObj.rows false 4 [[AVal.int IntKind.i64 a, AVal.int IntKind.i64 m, AVal.slc b 1 2 0 n none, AVal.tt true]], AObj.rows true 2 rs]) :=
  (evalF_ok followed Try.func23 (by kernel_rfl) (show evalF Try.prog Try.f23 ([logP]) (LogO a m b n rs) ([Dec.use [0, 1] [AVal.ptr 0 4 0 0] [AObj.rows false 4 [[AVal.int IntKind.i64 a, AVal.int IntKind.i64 m, AVal.slc b 1 2 0 n none, AVal.tt true]], AObj.rows true 2 rs] (AVal.int IntKind.i64 l) [AObj.rows false 4 [[AVal.int IntKind.i64 a, AVal.int IntKind.i64 m, AVal.slc b 1 2 0 n none, AVal.tt true]], AObj.rows true 2 rs], Dec.use [0, 1] [AVal.ptr 0 4 0 0, AVal.int IntKind.i64 l] [AObj.rows false 4 [[AVal.int IntKind.i64 a, AVal.int IntKind.i64 m, AVal.slc b 1 2 0 n none, AVal.tt true]], AObj.rows true 2 rs] (AVal.tuple [AVal.int IntKind.i64 t, AVal.int IntKind.i64 e]) [AObj.rows false 4 [[AVal.int IntKind.i64 a, AVal.int IntKind.i64 m, AVal.slc b 1 2 0 n none, AVal.tt true]], AObj.rows true 2 rs]]) = .ok (FRes.mk (AVal.int IntKind.i64 t) ([AObj.rows false 4 [[AVal.int IntKind.i64 a, AVal.int IntKind.i64 m, AVal.slc b 1 2 0 n none, AVal.tt true]], AObj.rows true 2 rs]) [Owed.use (owed Try.prog 2) 11 [0, 1] [AVal.ptr 0 4 0 0, AVal.int IntKind.i64 l] [AObj.rows false 4 [[AVal.int IntKind.i64 a, AVal.int IntKind.i64 m, AVal.slc b 1 2 0 n none, AVal.tt true]], AObj.rows true 2 rs] [AVal.ptr 0 4 0 0, AVal.int IntKind.i64 l] [AObj.rows false 4 [[AVal.int IntKind.i64 a, AVal.int IntKind.i64 m, AVal.slc b 1 2 0 n none, AVal.tt true]], AObj.rows true 2 rs] (AVal.tuple [AVal.int IntKind.i64 t, AVal.int IntKind.i64 e]) [AObj.rows false 4 [[AVal.int IntKind.i64 a, AVal.int IntKind.i64 m, AVal.slc b 1 2 0 n none, AVal.tt true]], AObj.rows true 2 rs],
    Owed.use (owed Try.prog 2) 12 [0, 1] [AVal.ptr 0 4 0 0] [AObj.rows false 4 [[AVal.int IntKind.i64 a, AVal.int IntKind.i64 m, AVal.slc b 1 2 0 n none, AVal.tt true]], AObj.rows true 2 rs] [AVal.ptr 0 4 0 0] [AObj.rows false 4 [[AVal.int IntKind.i64 a, AVal.int IntKind.i64 m, AVal.slc b 1 2 0 n none, AVal.tt true]], AObj.rows true 2 rs] (AVal.int IntKind.i64 l) [AObj.rows false 4 [[AVal.int IntKind.i64 a, AVal.int IntKind.i64 m, AVal.slc b 1 2 0 n none, AVal.tt true]], AObj.rows true 2 rs]]) by kernel_rfl) (allP_of (⟨⟨h1, rfl, rfl, rfl⟩, ⟨h2, rfl, rfl, rfl⟩, trivial⟩))).move ([0, 1]) (by kernel_rfl) (by kernel_rfl) (by kernel_rfl)


theorem append_1 (a : Int) (m : Int) (l : Int) (e : Int) (t : Int) (d : ByteArray) (b : Bool) (n : Nat) (rs : List (List AVal))
    (h1 : decide (t > 1099511627776) = true)
    (h2 : FOk Try.prog 22 [AVal.ptr 0 4 0 0] [AObj.rows false 4 [[AVal.int IntKind.i64 a, AVal.int IntKind.i64 m, AVal.slc b 1 2 0 n none, AVal.tt true]], AObj.rows true 2 rs] (AVal.bool true) [AObj.rows false 4 [[AVal.int IntKind.i64 a, AVal.int IntKind.i64 m, AVal.slc b 1 2 0 n none, AVal.tt true]], AObj.rows true 2 rs]) :
    FOk Try.prog 10 ([logP, entV t d]) (LogO a m b n rs) (AVal.tuple [AVal.int IntKind.i64 0, AVal.int IntKind.i64 1]) ([AObj.rows false 4 [[AVal.int IntKind.i64 a, AVal.int IntKind.i64 m, AVal.slc b 1 2 0 n none, AVal.tt true]], AObj.rows true 2 rs]) :=
  (evalF_ok followed Try.func10 (by kernel_rfl) (show evalF Try.prog Try.f10 ([logP, entV t d]) (LogO a m b n rs) ([Dec.use [0, 1] [AVal.ptr 0 4 0 0] [AObj.rows false 4 [[AVal.int IntKind.i64 a, AVal.int IntKind.i64 m, AVal.slc b 1 2 0 n none, AVal.tt true]], AObj.rows true 2 rs] (AVal.bool true) [AObj.rows false 4 [[AVal.int IntKind.i64 a, AVal.int IntKind.i64 m, AVal.slc b 1 2 0 n none, AVal.tt true]], AObj.rows true 2 rs], Dec.br false, Dec.br true]) = .ok (FRes.mk (AVal.tuple [AVal.int IntKind.i64 0, AVal.int IntKind.i64 1]) ([AObj.rows false 4 [[AVal.int IntKind.i64 a, AVal.int IntKind.i64 m, AVal.slc b 1 2 0 n none, AVal.tt true]], AObj.rows true 2 rs, AObj.rows true 2 [[AVal.int IntKind.i64 t, AVal.str d]]]) [Brd (decide (t > 1099511627776)) true,
    true = true,
    true = true,
    true = true,
    Brd (!true) false,
    Owed.use (owed Try.prog 2) 22 [0, 1] [AVal.ptr 0 4 0 0] [AObj.rows false 4 [[AVal.int IntKind.i64 a, AVal.int IntKind.i64 m, AVal.slc b 1 2 0 n none, AVal.tt true]], AObj.rows true 2 rs, AObj.rows true 2 [[AVal.int IntKind.i64 t, AVal.str d]]] [AVal.ptr 0 4 0 0] [AObj.rows false 4 [[AVal.int IntKind.i64 a, AVal.int IntKind.i64 m, AVal.slc b 1 2 0 n none, AVal.tt true]], AObj.rows true 2 rs] (AVal.bool true) [AObj.rows false 4 [[AVal.int IntKind.i64 a, AVal.int IntKind.i64 m, AVal.slc b 1 2 0 n none, AVal.tt true]], AObj.rows true 2 rs]]) by kernel_rfl) (allP_of (⟨h1, rfl, rfl, rfl, rfl, ⟨h2, rfl, rfl, rfl⟩, trivial⟩))).move ([0, 1]) (by kernel_rfl) (by kernel_rfl) (by kernel_rfl)

theorem append_2 (a : Int) (m : Int) (l : Int) (e : Int) (t : Int) (d : ByteArray) (b : Bool) (n : Nat) (rs : List (List AVal))
    (h1 : decide ((↑(ByteArray.size d) : Int) > 262144) = true)
    (h2 : decide (t > 1099511627776) = false)
    (h3 : FOk Try.prog 22 [AVal.ptr 0 4 0 0] [AObj.rows false 4 [[AVal.int IntKind.i64 a, AVal.int IntKind.i64 m, AVal.slc b 1 2 0 n none, AVal.tt true]], AObj.rows true 2 rs] (AVal.bool true) [AObj.rows false 4 [[AVal.int IntKind.i64 a, AVal.int IntKind.i64 m, AVal.slc b 1 2 0 n none, AVal.tt true]], AObj.rows true 2 rs]) :
    FOk Try.prog 10 ([logP, entV t d]) (LogO a m b n rs) (AVal.tuple [AVal.int IntKind.i64 0, AVal.int IntKind.i64 1]) ([AObj.rows false 4 [[AVal.int IntKind.i64 a, AVal.int IntKind.i64 m, AVal.slc b 1 2 0 n none, AVal.tt true]], AObj.rows true 2 rs]) :=
  (evalF_ok followed Try.func10 (by kernel_rfl) (show evalF Try.prog Try.f10 ([logP, entV t d]) (LogO a m b n rs) ([Dec.use [0, 1] [AVal.ptr 0 4 0 0] [AObj.rows false 4 [[AVal.int IntKind.i64 a, AVal.int IntKind.i64 m, AVal.slc b 1 2 0 n none, AVal.tt true]], AObj.rows true 2 rs] (AVal.bool true) [AObj.rows false 4 [[AVal.int IntKind.i64 a, AVal.int IntKind.i64 m, AVal.slc b 1 2 0 n none, AVal.tt true]], AObj.rows true 2 rs], Dec.br false, Dec.br false, Dec.br true]) = .ok (FRes.mk (AVal.tuple [AVal.int IntKind.i64 0, AVal.int IntKind.i64 1]) ([AObj.rows false 4 [[AVal.int IntKind.i64 a, AVal.int IntKind.i64 m, AVal.slc b 1 2 0 n none, AVal.tt true]], AObj.rows true 2 rs, AObj.rows true 2 [[AVal.int IntKind.i64 t, AVal.str d]]]) [Brd (decide ((↑(ByteArray.size d) : Int) > 262144)) true,
    true = true,
    true = true,
    true = true,
    Brd (decide (t > 1099511627776)) false,
    true = true,
    true = true,
    true = true,
    Brd (!true) false,
    Owed.use (owed Try.prog 2) 22 [0, 1] [AVal.ptr 0 4 0 0] [AObj.rows false 4 [[AVal.int IntKind.i64 a, AVal.int IntKind.i64 m, AVal.slc b 1 2 0 n none, AVal.tt true]], AObj.rows true 2 rs, AObj.rows true 2 [[AVal.int IntKind.i64 t, AVal.str d]]] [AVal.ptr 0 4 0 0] [AObj.rows false 4 [[AVal.int IntKind.i64 a, AVal.int IntKind.i64 m, AVal.slc b 1 2 0 n none, AVal.tt true]], AObj.rows true 2 rs] (AVal.bool true) [AObj.rows false 4 [[AVal.int IntKind.i64 a, AVal.int IntKind.i64 m, AVal.slc b 1 2 0 n none, AVal.tt true]], AObj.rows true 2 rs]]) by kernel_rfl) (allP_of (⟨h1, rfl, rfl, rfl, h2, rfl, rfl, rfl, rfl, ⟨h3, rfl, rfl, rfl⟩, trivial⟩))).move ([0, 1]) (by kernel_rfl) (by kernel_rfl) (by kernel_rfl)

theorem append_3 (a : Int) (m : Int) (l : Int) (e : Int) (t : Int) (d : ByteArray) (b : Bool) (n : Nat) (rs : List (List AVal))
    (h1 : decide (t < e) = true)
    (h2 : FOk Try.prog 23 [AVal.ptr 0 4 0 0] [AObj.rows false 4 [[AVal.int IntKind.i64 a, AVal.int IntKind.i64 m, AVal.slc b 1 2 0 n none, AVal.tt true]], AObj.rows true 2 rs] (AVal.int IntKind.i64 e) [AObj.rows false 4 [[AVal.int IntKind.i64 a, AVal.int IntKind.i64 m, AVal.slc b 1 2 0 n none, AVal.tt true]], AObj.rows true 2 rs])
    (h3 : decide ((↑(ByteArray.size d) : Int) > 262144) = false)
    (h4 : decide (t > 1099511627776) = false)
    (h5 : FOk Try.prog 22 [AVal.ptr 0 4 0 0] [AObj.rows false 4 [[AVal.int IntKind.i64 a, AVal.int IntKind.i64 m, AVal.slc b 1 2 0 n none, AVal.tt true]], AObj.rows true 2 rs] (AVal.bool true) [AObj.rows false 4 [[AVal.int IntKind.i64 a, AVal.int IntKind.i64 m, AVal.slc b 1 2 0 n none, AVal.tt true]], AObj.rows true 2 rs]) :
    FOk Try.prog 10 ([logP, entV t d]) (LogO a m b n rs) (AVal.tuple [AVal.int IntKind.i64 0, AVal.int IntKind.i64 50]) ([AObj.rows false 4 [[AVal.int IntKind.i64 a, AVal.int IntKind.i64 m, AVal.slc b 1 2 0 n none, AVal.tt true]], AObj.rows true 2 rs]) :=
  (evalF_ok followed Try.func10 (by kernel_rfl) (show evalF Try.prog Try.f10 ([logP, entV t d]) (LogO a m b n rs) ([Dec.use [0, 1] [AVal.ptr 0 4 0 0] [AObj.rows false 4 [[AVal.int IntKind.i64 a, AVal.int IntKind.i64 m, AVal.slc b 1 2 0 n none, AVal.tt true]], AObj.rows true 2 rs] (AVal.bool true) [AObj.rows false 4 [[AVal.int IntKind.i64 a, AVal.int IntKind.i64 m, AVal.slc b 1 2 0 n none, AVal.tt true]], AObj.rows true 2 rs], Dec.br false, Dec.br false, Dec.br false, Dec.use [0, 1] [AVal.ptr 0 4 0 0] [AObj.rows false 4 [[AVal.int IntKind.i64 a, AVal.int IntKind.i64 m, AVal.slc b 1 2 0 n none, AVal.tt true]], AObj.rows true 2 rs] (AVal.int IntKind.i64 e) [AObj.rows false 4 [[AVal.int IntKind.i64 a, AVal.int IntKind.i64 m, AVal.slc b 1 2 0 n none, AVal.tt true]], AObj.rows true 2 rs], Dec.br true]) = .ok (FRes.mk (AVal.tuple [AVal.int IntKind.i64 0, AVal.int IntKind.i64 50]) ([AObj.rows false 4 [[AVal.int IntKind.i64 a, AVal.int IntKind.i64 m, AVal.slc b 1 2 0 n none, AVal.tt true]], AObj.rows true 2 rs, AObj.rows true 2 [[AVal.int IntKind.i64 t, AVal.str d]]]) [Brd (decide (t < e)) true,
    true = true,
    true = true,
    true = true,
    true = true,
    true = true,
    true = true,
    true = true,
    true = true,
    Owed.use (owed Try.prog 2) 23 [0, 1] [AVal.ptr 0 4 0 0] [AObj.rows false 4 [[AVal.int IntKind.i64 a, AVal.int IntKind.i64 m, AVal.slc b 1 2 0 n none, AVal.tt true]], AObj.rows true 2 rs, AObj.rows true 2 [[AVal.int IntKind.i64 t, AVal.str d]]] [AVal.ptr 0 4 0 0] [AObj.rows false 4 [[AVal.int IntKind.i64 a, AVal.int IntKind.i64 m, AVal.slc b 1 2 0 n none, AVal.tt true]], AObj.rows true 2 rs] (AVal.int IntKind.i64 e) [AObj.rows false 4 [[AVal.int IntKind.i64 a, AVal.int IntKind.i64 m, AVal.slc b 1 2 0 n none, AVal.tt true]], AObj.rows true 2 rs],
    true = true,
    true = true,
    true = true,
    true = true,
    true = true,
    true = true,
    true = true,
    true = true,
    true = true,
    true = true,
    Brd (decide ((↑(ByteArray.size d) : Int) > 262144)) false,
    true = true,
    true = true,
    true = true,
    Brd (decide (t > 1099511627776)) false,
    true = true,
    true = true,
    true = true,
    Brd (!true) false,
    Owed.use (owed Try.prog 2) 22 [0, 1] [AVal.ptr 0 4 0 0] [AObj.rows false 4 [[AVal.int IntKind.i64 a, AVal.int IntKind.i64 m, AVal.slc b 1 2 0 n none, AVal.tt true]], AObj.rows true 2 rs, AObj.rows true 2 [[AVal.int IntKind.i64 t, AVal.str d]]] [AVal.ptr 0 4 0 0] [AObj.rows false 4 [[AVal.int IntKind.i64 a, AVal.int IntKind.i64 m, AVal.slc b 1 2 0 n none, AVal.tt true]], AObj.rows true 2 rs] (AVal.bool true) [AObj.rows false 4 [[AVal.int IntKind.i64 a, AVal.int IntKind.i64 m, AVal.slc b 1 2 0 n none, AVal.tt true]], AObj.rows true 2 rs]]) by kernel_rfl) (allP_of (⟨h1, rfl, rfl, rfl, rfl, rfl, rfl, rfl, rfl, ⟨h2, rfl, rfl, rfl⟩, rfl, rfl, rfl, rfl, rfl, rfl, rfl, rfl, rfl, rfl, h3, rfl, rfl, rfl, h4, rfl, rfl, rfl, rfl, ⟨h5, rfl, rfl, rfl⟩, trivial⟩))).move ([0, 1]) (by kernel_rfl) (by kernel_rfl) (by kernel_rfl)

theorem append_4 (a : Int) (m : Int) (l : Int) (e : Int) (t : Int) (d : ByteArray) (b : Bool) (n : Nat) (rs : List (List AVal))
    (h1 : decide (l ≥ 1099511627776) = true)
    (h2 : FOk Try.prog 12 [AVal.ptr 0 4 0 0] [AObj.rows false 4 [[AVal.int IntKind.i64 a, AVal.int IntKind.i64 m, AVal.slc b 1 2 0 n none, AVal.tt true]], AObj.rows true 2 rs] (AVal.int IntKind.i64 l) [AObj.rows false 4 [[AVal.int IntKind.i64 a, AVal.int IntKind.i64 m, AVal.slc b 1 2 0 n none, AVal.tt true]], AObj.rows true 2 rs])
    (h3 : decide (t < e) = false)
    (h4 : FOk Try.prog 23 [AVal.ptr 0 4 0 0] [AObj.rows false 4 [[AVal.int IntKind.i64 a, AVal.int IntKind.i64 m, AVal.slc b 1 2 0 n none, AVal.tt true]], AObj.rows true 2 rs] (AVal.int IntKind.i64 e) [AObj.rows false 4 [[AVal.int IntKind.i64 a, AVal.int IntKind.i64 m, AVal.slc b 1 2 0 n none, AVal.tt true]], AObj.rows true 2 rs])
    (h5 : decide ((↑(ByteArray.size d) : Int) > 262144) = false)
    (h6 : decide (t > 1099511627776) = false)
    (h7 : FOk Try.prog 22 [AVal.ptr 0 4 0 0] [AObj.rows false 4 [[AVal.int IntKind.i64 a, AVal.int IntKind.i64 m, AVal.slc b 1 2 0 n none, AVal.tt true]], AObj.rows true 2 rs] (AVal.bool true) [AObj.rows false 4 [[AVal.int IntKind.i64 a, AVal.int IntKind.i64 m, AVal.slc b 1 2 0 n none, AVal.tt true]], AObj.rows true 2 rs]) :
    FOk Try.prog 10 ([logP, entV t d]) (LogO a m b n rs) (AVal.tuple [AVal.int IntKind.i64 0, AVal.int IntKind.i64 2]) ([AObj.rows false 4 [[AVal.int IntKind.i64 a, AVal.int IntKind.i64 m, AVal.slc b 1 2 0 n none, AVal.tt true]], AObj.rows true 2 rs]) :=
  (evalF_ok followed Try.func10 (by kernel_rfl) (show evalF Try.prog Try.f10 ([logP, entV t d]) (LogO a m b n rs) ([Dec.use [0, 1] [AVal.ptr 0 4 0 0] [AObj.rows false 4 [[AVal.int IntKind.i64 a, AVal.int IntKind.i64 m, AVal.slc b 1 2 0 n none, AVal.tt true]], AObj.rows true 2 rs] (AVal.bool true) [AObj.rows false 4 [[AVal.int IntKind.i64 a, AVal.int IntKind.i64 m, AVal.slc b 1 2 0 n none, AVal.tt true]], AObj.rows true 2 rs], Dec.br false, Dec.br false, Dec.br false, Dec.use [0, 1] [AVal.ptr 0 4 0 0] [AObj.rows false 4 [[AVal.int IntKind.i64 a, AVal.int IntKind.i64 m, AVal.slc b 1 2 0 n none, AVal.tt true]], AObj.rows true 2 rs] (AVal.int IntKind.i64 e) [AObj.rows false 4 [[AVal.int IntKind.i64 a, AVal.int IntKind.i64 m, AVal.slc b 1 2 0 n none, AVal.tt true]], AObj.rows true 2 rs], Dec.br false, Dec.use [0, 1] [AVal.ptr 0 4 0 0] [AObj.rows false 4 [[AVal.int IntKind.i64 a, AVal.int IntKind.i64 m, AVal.slc b 1 2 0 n none, AVal.tt true]], AObj.rows true 2 rs] (AVal.int IntKind.i64 l) [AObj.rows false 4 [[AVal.int IntKind.i64 a, AVal.int IntKind.i64 m, AVal.slc b 1 2 0 n none, AVal.tt true]], AObj.rows true 2 rs], Dec.br true]) = .ok (FRes.mk (AVal.tuple [AVal.int IntKind.i64 0, AVal.int IntKind.i64 2]) ([AObj.rows false 4 [[AVal.int IntKind.i64 a, AVal.int IntKind.i64 m, AVal.slc b 1 2 0 n none, AVal.tt true]], AObj.rows true 2 rs, AObj.rows true 2 [[AVal.int IntKind.i64 t, AVal.str d]]]) [Brd (decide (l ≥ 1099511627776)) true,
    Owed.use (owed Try.prog 2) 12 [0, 1] [AVal.ptr 0 4 0 0] [AObj.rows false 4 [[AVal.int IntKind.i64 a, AVal.int IntKind.i64 m, AVal.slc b 1 2 0 n none, AVal.tt true]], AObj.rows true 2 rs, AObj.rows true 2 [[AVal.int IntKind.i64 t, AVal.str d]]] [AVal.ptr 0 4 0 0] [AObj.rows false 4 [[AVal.int IntKind.i64 a, AVal.int IntKind.i64 m, AVal.slc b 1 2 0 n none, AVal.tt true]], AObj.rows true 2 rs] (AVal.int IntKind.i64 l) [AObj.rows false 4 [[AVal.int IntKind.i64 a, AVal.int IntKind.i64 m, AVal.slc b 1 2 0 n none, AVal.tt true]], AObj.rows true 2 rs],
    Brd (decide (t < e)) false,
    true = true,
    true = true,
    true = true,
    true = true,
    true = true,
    true = true,
    true = true,
    true = true,
    Owed.use (owed Try.prog 2) 23 [0, 1] [AVal.ptr 0 4 0 0] [AObj.rows false 4 [[AVal.int IntKind.i64 a, AVal.int IntKind.i64 m, AVal.slc b 1 2 0 n none, AVal.tt true]], AObj.rows true 2 rs, AObj.rows true 2 [[AVal.int IntKind.i64 t, AVal.str d]]] [AVal.ptr 0 4 0 0] [AObj.rows false 4 [[AVal.int IntKind.i64 a, AVal.int IntKind.i64 m, AVal.slc b 1 2 0 n none, AVal.tt true]], AObj.rows true 2 rs] (AVal.int IntKind.i64 e) [AObj.rows false 4 [[AVal.int IntKind.i64 a, AVal.int IntKind.i64 m, AVal.slc b 1 2 0 n none, AVal.tt true]], AObj.rows true 2 rs],
    true = true,
    true = true,
    true = true,
    true = true,
    true = true,
    true = true,
    true = true,
    true = true,
    true = true,
    true = true,
    Brd (decide ((↑(ByteArray.size d) : Int) > 262144)) false,
    true = true,
    true = true,
    true = true,
    Brd (decide (t > 1099511627776)) false,
    true = true,
    true = true,
    true = true,
    Brd (!true) false,
    Owed.use (owed Try.prog 2) 22 [0, 1] [AVal.ptr 0 4 0 0] [AObj.rows false 4 [[AVal.int IntKind.i64 a, AVal.int IntKind.i64 m, AVal.slc b 1 2 0 n none, AVal.tt true]], AObj.rows true 2 rs, AObj.rows true 2 [[AVal.int IntKind.i64 t, AVal.str d]]] [AVal.ptr 0 4 0 0] [AObj.rows false 4 [[AVal.int IntKind.i64 a, AVal.int IntKind.i64 m, AVal.slc b 1 2 0 n none, AVal.tt true]], AObj.rows true 2 rs] (AVal.bool true) [AObj.rows false 4 [[AVal.int IntKind.i64 a, AVal.int IntKind.i64 m, AVal.slc b 1 2 0 n none, AVal.tt true]], AObj.rows true 2 rs]]) by kernel_rfl) (allP_of (⟨h1, ⟨h2, rfl, rfl, rfl⟩, h3, rfl, rfl, rfl, rfl, rfl, rfl, rfl, rfl, ⟨h4, rfl, rfl, rfl⟩, rfl, rfl, rfl, rfl, rfl, rfl, rfl, rfl, rfl, rfl, h5, rfl, rfl, rfl, h6, rfl, rfl, rfl, rfl, ⟨h7, rfl, rfl, rfl⟩, trivial⟩))).move ([0, 1]) (by kernel_rfl) (by kernel_rfl) (by kernel_rfl)

theorem append_5 (a : Int) (m : Int) (l : Int) (e : Int) (t : Int) (d : ByteArray) (b : Bool) (n : Nat) (rs : List (List AVal))
    (h1 : FOk Try.prog 12 [AVal.ptr 0 4 0 0] [AObj.rows false 4 [[AVal.int IntKind.i64 a, AVal.int IntKind.i64 m, AVal.slc (b && List.isEmpty [[AVal.int IntKind.i64 t, AVal.str d]]) 1 2 0 (n + List.length [[AVal.int IntKind.i64 t, AVal.str d]]) none, AVal.tt true]], AObj.rows true 2 (rs ++ [[AVal.int IntKind.i64 t, AVal.str d]])] (AVal.int IntKind.i64 (IntKind.wrap IntKind.i64 (l + 1))) [AObj.rows false 4 [[AVal.int IntKind.i64 a, AVal.int IntKind.i64 m, AVal.slc (b && List.isEmpty [[AVal.int IntKind.i64 t, AVal.str d]]) 1 2 0 (n + List.length [[AVal.int IntKind.i64 t, AVal.str d]]) none, AVal.tt true]], AObj.rows true 2 (rs ++ [[AVal.int IntKind.i64 t, AVal.str d]])])
    (h2 : decide (List.length rs = n) = true)
    (h3 : decide ((n + List.length [[AVal.int IntKind.i64 t, AVal.str d]]) * 24 ≤ 140737488355328 ∧ n + List.length [[AVal.int IntKind.i64 t, AVal.str d]] ≤ 9223372036854775807) = true)
    (h4 : decide (l ≥ 1099511627776) = false)
    (h5 : FOk Try.prog 12 [AVal.ptr 0 4 0 0] [AObj.rows false 4 [[AVal.int IntKind.i64 a, AVal.int IntKind.i64 m, AVal.slc b 1 2 0 n none, AVal.tt true]], AObj.rows true 2 rs] (AVal.int IntKind.i64 l) [AObj.rows false 4 [[AVal.int IntKind.i64 a, AVal.int IntKind.i64 m, AVal.slc b 1 2 0 n none, AVal.tt true]], AObj.rows true 2 rs])
    (h6 : decide (t < e) = false)
    (h7 : FOk Try.prog 23 [AVal.ptr 0 4 0 0] [AObj.rows false 4 [[AVal.int IntKind.i64 a, AVal.int IntKind.i64 m, AVal.slc b 1 2 0 n none, AVal.tt true]], AObj.rows true 2 rs] (AVal.int IntKind.i64 e) [AObj.rows false 4 [[AVal.int IntKind.i64 a, AVal.int IntKind.i64 m, AVal.slc b 1 2 0 n none, AVal.tt true]], AObj.rows true 2 rs])
    (h8 : decide ((↑(ByteArray.size d) : Int) > 262144) = false)
    (h9 : decide (t > 1099511627776) = false)
    (h10 : FOk Try.prog 22 [AVal.ptr 0 4 0 0] [AObj.rows false 4 [[AVal.int IntKind.i64 a, AVal.int IntKind.i64 m, AVal.slc b 1 2 0 n none, AVal.tt true]], AObj.rows true 2 rs] (AVal.bool true) [AObj.rows false 4 [[AVal.int IntKind.i64 a, AVal.int IntKind.i64 m, AVal.slc b 1 2 0 n none, AVal.tt true]], AObj.rows true 2 rs]) :
    FOk Try.prog 10 ([logP, entV t d]) (LogO a m b n rs) (AVal.tuple [AVal.int IntKind.i64 (IntKind.wrap IntKind.i64 (l + 1)), AVal.int IntKind.i64 0]) ([AObj.rows false 4 [[AVal.int IntKind.i64 a, AVal.int IntKind.i64 m, AVal.slc (b && List.isEmpty [[AVal.int IntKind.i64 t, AVal.str d]]) 2 2 0 (n + List.length [[AVal.int IntKind.i64 t, AVal.str d]]) none, AVal.tt true]], AObj.dead, AObj.rows true 2 (rs ++ [[AVal.int IntKind.i64 t, AVal.str d]])]) :=
  (evalF_ok followed Try.func10 (by kernel_rfl) (show evalF Try.prog Try.f10 ([logP, entV t d]) (LogO a m b n rs) ([Dec.use [0, 1] [AVal.ptr 0 4 0 0] [AObj.rows false 4 [[AVal.int IntKind.i64 a, AVal.int IntKind.i64 m, AVal.slc b 1 2 0 n none, AVal.tt true]], AObj.rows true 2 rs] (AVal.bool true) [AObj.rows false 4 [[AVal.int IntKind.i64 a, AVal.int IntKind.i64 m, AVal.slc b 1 2 0 n none, AVal.tt true]], AObj.rows true 2 rs], Dec.br false, Dec.br false, Dec.br false, Dec.use [0, 1] [AVal.ptr 0 4 0 0] [AObj.rows false 4 [[AVal.int IntKind.i64 a, AVal.int IntKind.i64 m, AVal.slc b 1 2 0 n none, AVal.tt true]], AObj.rows true 2 rs] (AVal.int IntKind.i64 e) [AObj.rows false 4 [[AVal.int IntKind.i64 a, AVal.int IntKind.i64 m, AVal.slc b 1 2 0 n none, AVal.tt true]], AObj.rows true 2 rs], Dec.br false, Dec.use [0, 1] [AVal.ptr 0 4 0 0] [AObj.rows false 4 [[AVal.int IntKind.i64 a, AVal.int IntKind.i64 m, AVal.slc b 1 2 0 n none, AVal.tt true]], AObj.rows true 2 rs] (AVal.int IntKind.i64 l) [AObj.rows false 4 [[AVal.int IntKind.i64 a, AVal.int IntKind.i64 m, AVal.slc b 1 2 0 n none, AVal.tt true]], AObj.rows true 2 rs], Dec.br false, Dec.use [0, 4] [AVal.ptr 0 4 0 0] [AObj.rows false 4 [[AVal.int IntKind.i64 a, AVal.int IntKind.i64 m, AVal.slc (b && List.isEmpty [[AVal.int IntKind.i64 t, AVal.str d]]) 1 2 0 (n + List.length [[AVal.int IntKind.i64 t, AVal.str d]]) none, AVal.tt true]], AObj.rows true 2 (rs ++ [[AVal.int IntKind.i64 t, AVal.str d]])] (AVal.int IntKind.i64 (IntKind.wrap IntKind.i64 (l + 1))) [AObj.rows false 4 [[AVal.int IntKind.i64 a, AVal.int IntKind.i64 m, AVal.slc (b && List.isEmpty [[AVal.int IntKind.i64 t, AVal.str d]]) 1 2 0 (n + List.length [[AVal.int IntKind.i64 t, AVal.str d]]) none, AVal.tt true]], AObj.rows true 2 (rs ++ [[AVal.int IntKind.i64 t, AVal.str d]])]]) = .ok (FRes.mk (AVal.tuple [AVal.int IntKind.i64 (IntKind.wrap IntKind.i64 (l + 1)), AVal.int IntKind.i64 0]) ([AObj.rows false 4 [[AVal.int IntKind.i64 a, AVal.int IntKind.i64 m, AVal.slc (b && List.isEmpty [[AVal.int IntKind.i64 t, AVal.str d]]) 4 2 0 (n + List.length [[AVal.int IntKind.i64 t, AVal.str d]]) none, AVal.tt true]], AObj.dead, AObj.rows true 2 [[AVal.int IntKind.i64 t, AVal.str d]], AObj.rows true 2 [[AVal.int IntKind.i64 t, AVal.str d]], AObj.rows true 2 (rs ++ [[AVal.int IntKind.i64 t, AVal.str d]])]) [Owed.use (owed Try.prog 2) 12 [0, 4] [AVal.ptr 0 4 0 0] [AObj.rows false 4 [[AVal.int IntKind.i64 a, AVal.int IntKind.i64 m, AVal.slc (b && List.isEmpty [[AVal.int IntKind.i64 t, AVal.str d]]) 4 2 0 (n + List.length [[AVal.int IntKind.i64 t, AVal.str d]]) none, AVal.tt true]], AObj.dead, AObj.rows true 2 [[AVal.int IntKind.i64 t, AVal.str d]], AObj.rows true 2 [[AVal.int IntKind.i64 t, AVal.str d]], AObj.rows true 2 (rs ++ [[AVal.int IntKind.i64 t, AVal.str d]])] [AVal.ptr 0 4 0 0] [AObj.rows false 4 [[AVal.int IntKind.i64 a, AVal.int IntKind.i64 m, AVal.slc (b && List.isEmpty [[AVal.int IntKind.i64 t, AVal.str d]]) 1 2 0 (n + List.length [[AVal.int IntKind.i64 t, AVal.str d]]) none, AVal.tt true]], AObj.rows true 2 (rs ++ [[AVal.int IntKind.i64 t, AVal.str d]])] (AVal.int IntKind.i64 (IntKind.wrap IntKind.i64 (l + 1))) [AObj.rows false 4 [[AVal.int IntKind.i64 a, AVal.int IntKind.i64 m, AVal.slc (b && List.isEmpty [[AVal.int IntKind.i64 t, AVal.str d]]) 1 2 0 (n + List.length [[AVal.int IntKind.i64 t, AVal.str d]]) none, AVal.tt true]], AObj.rows true 2 (rs ++ [[AVal.int IntKind.i64 t, AVal.str d]])],
    true = true,
    true = true,
    true = true,
    true = true,
    true = true,
    true = true,
    true = true,
    true = true,
    true = true,
    true = true,
    true = true,
    decide (List.length rs = n) = true,
    decide ((n + List.length [[AVal.int IntKind.i64 t, AVal.str d]]) * 24 ≤ 140737488355328 ∧ n + List.length [[AVal.int IntKind.i64 t, AVal.str d]] ≤ 9223372036854775807) = true,
    true = true,
    true = true,
    true = true,
    true = true,
    true = true,
    true = true,
    true = true,
    true = true,
    true = true,
    true = true,
    true = true,
    true = true,
    true = true,
    true = true,
    true = true,
    true = true,
    true = true,
    true = true,
    true = true,
    true = true,
    true = true,
    true = true,
    true = true,
    true = true,
    true = true,
    true = true,
    true = true,
    true = true,
    Brd (decide (l ≥ 1099511627776)) false,
    Owed.use (owed Try.prog 2) 12 [0, 1] [AVal.ptr 0 4 0 0] [AObj.rows false 4 [[AVal.int IntKind.i64 a, AVal.int IntKind.i64 m, AVal.slc b 1 2 0 n none, AVal.tt true]], AObj.rows true 2 rs, AObj.rows true 2 [[AVal.int IntKind.i64 t, AVal.str d]]] [AVal.ptr 0 4 0 0] [AObj.rows false 4 [[AVal.int IntKind.i64 a, AVal.int IntKind.i64 m, AVal.slc b 1 2 0 n none, AVal.tt true]], AObj.rows true 2 rs] (AVal.int IntKind.i64 l) [AObj.rows false 4 [[AVal.int IntKind.i64 a, AVal.int IntKind.i64 m, AVal.slc b 1 2 0 n none, AVal.tt true]], AObj.rows true 2 rs],
    Brd (decide (t < e)) false,
    true = true,
    true = true,
    true = true,
    true = true,
    true = true,
    true = true,
    true = true,
    true = true,
    Owed.use (owed Try.prog 2) 23 [0, 1] [AVal.ptr 0 4 0 0] [AObj.rows false 4 [[AVal.int IntKind.i64 a, AVal.int IntKind.i64 m, AVal.slc b 1 2 0 n none, AVal.tt true]], AObj.rows true 2 rs, AObj.rows true 2 [[AVal.int IntKind.i64 t, AVal.str d]]] [AVal.ptr 0 4 0 0] [AObj.rows false 4 [[AVal.int IntKind.i64 a, AVal.int IntKind.i64 m, AVal.slc b 1 2 0 n none, AVal.tt true]], AObj.rows true 2 rs] (AVal.int IntKind.i64 e) [AObj.rows false 4 [[AVal.int IntKind.i64 a, AVal.int IntKind.i64 m, AVal.slc b 1 2 0 n none, AVal.tt true]], AObj.rows true 2 rs],
    true = true,
    true = true,
    true = true,
    true = true,
    true = true,
    true = true,
    true = true,
    true = true,
    true = true,
    true = true,
    Brd (decide ((↑(ByteArray.size d) : Int) > 262144)) false,
    true = true,
    true = true,
    true = true,
    Brd (decide (t > 1099511627776)) false,
    true = true,
    true = true,
    true = true,
    Brd (!true) false,
    Owed.use (owed Try.prog 2) 22 [0, 1] [AVal.ptr 0 4 0 0] [AObj.rows false 4 [[AVal.int IntKind.i64 a, AVal.int IntKind.i64 m, AVal.slc b 1 2 0 n none, AVal.tt true]], AObj.rows true 2 rs, AObj.rows true 2 [[AVal.int IntKind.i64 t, AVal.str d]]] [AVal.ptr 0 4 0 0] [AObj.rows false 4 [[AVal.int IntKind.i64 a, AVal.int IntKind.i64 m, AVal.slc b 1 2 0 n none, AVal.tt true]], AObj.rows true 2 rs] (AVal.bool true) [AObj.rows false 4 [[AVal.int IntKind.i64 a, AVal.int IntKind.i64 m, AVal.slc b 1 2 0 n none, AVal.tt true]], AObj.rows true 2 rs]]) by kernel_rfl) (allP_of (⟨⟨h1, rfl, rfl, rfl⟩, rfl, rfl, rfl, rfl, rfl, rfl, rfl, rfl, rfl, rfl, rfl, h2, h3, rfl, rfl, rfl, rfl, rfl, rfl, rfl, rfl, rfl, rfl, rfl, rfl, rfl, rfl, rfl, rfl, rfl, rfl, rfl, rfl, rfl, rfl, rfl, rfl, rfl, rfl, rfl, rfl, h4, ⟨h5, rfl, rfl, rfl⟩, h6, rfl, rfl, rfl, rfl, rfl, rfl, rfl, rfl, ⟨h7, rfl, rfl, rfl⟩, rfl, rfl, rfl, rfl, rfl, rfl, rfl, rfl, rfl, rfl, h8, rfl, rfl, rfl, h9, rfl, rfl, rfl, rfl, ⟨h10, rfl, rfl, rfl⟩, trivial⟩))).move ([0, 1, 4]) (by kernel_rfl) (by kernel_rfl) (by kernel_rfl)


theorem from__1 (a : Int) (m : Int) (l : Int) (i : Int) (b : Bool) (n : Nat) (rs : List (List AVal))
    (h1 : decide (i ≤ a) = true)
    (h2 : FOk Try.prog 22 [AVal.ptr 0 4 0 0] [AObj.rows false 4 [[AVal.int IntKind.i64 a, AVal.int IntKind.i64 m, AVal.slc b 1 2 0 n none, AVal.tt true]], AObj.rows true 2 rs] (AVal.bool true) [AObj.rows false 4 [[AVal.int IntKind.i64 a, AVal.int IntKind.i64 m, AVal.slc b 1 2 0 n none, AVal.tt true]], AObj.rows true 2 rs]) :
    FOk Try.prog 25 ([logP, AVal.int IntKind.i64 i]) (LogO a m b n rs) (AVal.tuple [AVal.int IntKind.i64 0, AVal.int IntKind.i64 60]) ([AObj.rows false 4 [[AVal.int IntKind.i64 a, AVal.int IntKind.i64 m, AVal.slc b 1 2 0 n none, AVal.tt true]], AObj.rows true 2 rs]) :=
  (evalF_ok followed Try.func25 (by kernel_rfl) (show evalF Try.prog Try.f25 ([logP, AVal.int IntKind.i64 i]) (LogO a m b n rs) ([Dec.use [0, 1] [AVal.ptr 0 4 0 0] [AObj.rows false 4 [[AVal.int IntKind.i64 a, AVal.int IntKind.i64 m, AVal.slc b 1 2 0 n none, AVal.tt true]], AObj.rows true 2 rs] (AVal.bool true) [AObj.rows false 4 [[AVal.int IntKind.i64 a, AVal.int IntKind.i64 m, AVal.slc b 1 2 0 n none, AVal.tt true]], AObj.rows true 2 rs], Dec.br false, Dec.br true]) = .ok (FRes.mk (AVal.tuple [AVal.int IntKind.i64 0, AVal.int IntKind.i64 60]) ([AObj.rows false 4 [[AVal.int IntKind.i64 a, AVal.int IntKind.i64 m, AVal.slc b 1 2 0 n none, AVal.tt true]], AObj.rows true 2 rs]) [Brd (decide (i ≤ a)) true,
    true = true,
    true = true,
    Brd false false,
    Owed.use (owed Try.prog 2) 22 [0, 1] [AVal.ptr 0 4 0 0] [AObj.rows false 4 [[AVal.int IntKind.i64 a, AVal.int IntKind.i64 m, AVal.slc b 1 2 0 n none, AVal.tt true]], AObj.rows true 2 rs] [AVal.ptr 0 4 0 0] [AObj.rows false 4 [[AVal.int IntKind.i64 a, AVal.int IntKind.i64 m, AVal.slc b 1 2 0 n none, AVal.tt true]], AObj.rows true 2 rs] (AVal.bool true) [AObj.rows false 4 [[AVal.int IntKind.i64 a, AVal.int IntKind.i64 m, AVal.slc b 1 2 0 n none, AVal.tt true]], AObj.rows true 2 rs]]) by kernel_rfl) (allP_of (⟨h1, rfl, rfl, rfl, ⟨h2, rfl, rfl, rfl⟩, trivial⟩))).move ([0, 1]) (by kernel_rfl) (by kernel_rfl) (by kernel_rfl)

theorem from__2 (a : Int) (m : Int) (l : Int) (i : Int) (b : Bool) (n : Nat) (rs : List (List AVal))
    (h1 : decide (i > IntKind.wrap IntKind.i64 (l + 1)) = true)
    (h2 : FOk Try.prog 12 [AVal.ptr 0 4 0 0] [AObj.rows false 4 [[AVal.int IntKind.i64 a, AVal.int IntKind.i64 m, AVal.slc b 1 2 0 n none, AVal.tt true]], AObj.rows true 2 rs] (AVal.int IntKind.i64 l) [AObj.rows false 4 [[AVal.int IntKind.i64 a, AVal.int IntKind.i64 m, AVal.slc b 1 2 0 n none, AVal.tt true]], AObj.rows true 2 rs])
    (h3 : decide (i ≤ a) = false)
    (h4 : FOk Try.prog 22 [AVal.ptr 0 4 0 0] [AObj.rows false 4 [[AVal.int IntKind.i64 a, AVal.int IntKind.i64 m, AVal.slc b 1 2 0 n none, AVal.tt true]], AObj.rows true 2 rs] (AVal.bool true) [AObj.rows false 4 [[AVal.int IntKind.i64 a, AVal.int IntKind.i64 m, AVal.slc b 1 2 0 n none, AVal.tt true]], AObj.rows true 2 rs]) :
    FOk Try.prog 25 ([logP, AVal.int IntKind.i64 i]) (LogO a m b n rs) (AVal.tuple [AVal.int IntKind.i64 0, AVal.int IntKind.i64 3]) ([AObj.rows false 4 [[AVal.int IntKind.i64 a, AVal.int IntKind.i64 m, AVal.slc b 1 2 0 n none, AVal.tt true]], AObj.rows true 2 rs]) :=
  (evalF_ok followed Try.func25 (by kernel_rfl) (show evalF Try.prog Try.f25 ([logP, AVal.int IntKind.i64 i]) (LogO a m b n rs) ([Dec.use [0, 1] [AVal.ptr 0 4 0 0] [AObj.rows false 4 [[AVal.int IntKind.i64 a, AVal.int IntKind.i64 m, AVal.slc b 1 2 0 n none, AVal.tt true]], AObj.rows true 2 rs] (AVal.bool true) [AObj.rows false 4 [[AVal.int IntKind.i64 a, AVal.int IntKind.i64 m, AVal.slc b 1 2 0 n none, AVal.tt true]], AObj.rows true 2 rs], Dec.br false, Dec.br false, Dec.use [0, 1] [AVal.ptr 0 4 0 0] [AObj.rows false 4 [[AVal.int IntKind.i64 a, AVal.int IntKind.i64 m, AVal.slc b 1 2 0 n none, AVal.tt true]], AObj.rows true 2 rs] (AVal.int IntKind.i64 l) [AObj.rows false 4 [[AVal.int IntKind.i64 a, AVal.int IntKind.i64 m, AVal.slc b 1 2 0 n none, AVal.tt true]], AObj.rows true 2 rs], Dec.br true]) = .ok (FRes.mk (AVal.tuple [AVal.int IntKind.i64 0, AVal.int IntKind.i64 3]) ([AObj.rows false 4 [[AVal.int IntKind.i64 a, AVal.int IntKind.i64 m, AVal.slc b 1 2 0 n none, AVal.tt true]], AObj.rows true 2 rs]) [Brd (decide (i > IntKind.wrap IntKind.i64 (l + 1))) true,
    Owed.use (owed Try.prog 2) 12 [0, 1] [AVal.ptr 0 4 0 0] [AObj.rows false 4 [[AVal.int IntKind.i64 a, AVal.int IntKind.i64 m, AVal.slc b 1 2 0 n none, AVal.tt true]], AObj.rows true 2 rs] [AVal.ptr 0 4 0 0] [AObj.rows false 4 [[AVal.int IntKind.i64 a, AVal.int IntKind.i64 m, AVal.slc b 1 2 0 n none, AVal.tt true]], AObj.rows true 2 rs] (AVal.int IntKind.i64 l) [AObj.rows false 4 [[AVal.int IntKind.i64 a, AVal.int IntKind.i64 m, AVal.slc b 1 2 0 n none, AVal.tt true]], AObj.rows true 2 rs],
    Brd (decide (i ≤ a)) false,
    true = true,
    true = true,
    Brd false false,
    Owed.use (owed Try.prog 2) 22 [0, 1] [AVal.ptr 0 4 0 0] [AObj.rows false 4 [[AVal.int IntKind.i64 a, AVal.int IntKind.i64 m, AVal.slc b 1 2 0 n none, AVal.tt true]], AObj.rows true 2 rs] [AVal.ptr 0 4 0 0] [AObj.rows false 4 [[AVal.int IntKind.i64 a, AVal.int IntKind.i64 m, AVal.slc b 1 2 0 n none, AVal.tt true]], AObj.rows true 2 rs] (AVal.bool true) [AObj.rows false 4 [[AVal.int IntKind.i64 a, AVal.int IntKind.i64 m, AVal.slc b 1 2 0 n none, AVal.tt true]], AObj.rows true 2 rs]]) by kernel_rfl) (allP_of (⟨h1, ⟨h2, rfl, rfl, rfl⟩, h3, rfl, rfl, rfl, ⟨h4, rfl, rfl, rfl⟩, trivial⟩))).move ([0, 1]) (by kernel_rfl) (by kernel_rfl) (by kernel_rfl)

theorem from__3 (a : Int) (m : Int) (l : Int) (i : Int) (b : Bool) (n : Nat) (rs : List (List AVal))
    (h1 : decide (i > IntKind.wrap IntKind.i64 (l + 1)) = false)
    (h2 : FOk Try.prog 12 [AVal.ptr 0 4 0 0] [AObj.rows false 4 [[AVal.int IntKind.i64 a, AVal.int IntKind.i64 m, AVal.slc b 1 2 0 n none, AVal.tt true]], AObj.rows true 2 rs] (AVal.int IntKind.i64 l) [AObj.rows false 4 [[AVal.int IntKind.i64 a, AVal.int IntKind.i64 m, AVal.slc b 1 2 0 n none, AVal.tt true]], AObj.rows true 2 rs])
    (h3 : decide (i ≤ a) = false)
    (h4 : FOk Try.prog 22 [AVal.ptr 0 4 0 0] [AObj.rows false 4 [[AVal.int IntKind.i64 a, AVal.int IntKind.i64 m, AVal.slc b 1 2 0 n none, AVal.tt true]], AObj.rows true 2 rs] (AVal.bool true) [AObj.rows false 4 [[AVal.int IntKind.i64 a, AVal.int IntKind.i64 m, AVal.slc b 1 2 0 n none, AVal.tt true]], AObj.rows true 2 rs]) :
    FOk Try.prog 25 ([logP, AVal.int IntKind.i64 i]) (LogO a m b n rs) (AVal.tuple [AVal.int IntKind.i64 (IntKind.wrap IntKind.i64 (IntKind.wrap IntKind.i64 (i - a) - 1)), AVal.int IntKind.i64 0]) ([AObj.rows false 4 [[AVal.int IntKind.i64 a, AVal.int IntKind.i64 m, AVal.slc b 1 2 0 n none, AVal.tt true]], AObj.rows true 2 rs]) :=
  (evalF_ok followed Try.func25 (by kernel_rfl) (show evalF Try.prog Try.f25 ([logP, AVal.int IntKind.i64 i]) (LogO a m b n rs) ([Dec.use [0, 1] [AVal.ptr 0 4 0 0] [AObj.rows false 4 [[AVal.int IntKind.i64 a, AVal.int IntKind.i64 m, AVal.slc b 1 2 0 n none, AVal.tt true]], AObj.rows true 2 rs] (AVal.bool true) [AObj.rows false 4 [[AVal.int IntKind.i64 a, AVal.int IntKind.i64 m, AVal.slc b 1 2 0 n none, AVal.tt true]], AObj.rows true 2 rs], Dec.br false, Dec.br false, Dec.use [0, 1] [AVal.ptr 0 4 0 0] [AObj.rows false 4 [[AVal.int IntKind.i64 a, AVal.int IntKind.i64 m, AVal.slc b 1 2 0 n none, AVal.tt true]], AObj.rows true 2 rs] (AVal.int IntKind.i64 l) [AObj.rows false 4 [[AVal.int IntKind.i64 a, AVal.int IntKind.i64 m, AVal.slc b 1 2 0 n none, AVal.tt true]], AObj.rows true 2 rs], Dec.br false]) = .ok (FRes.mk (AVal.tuple [AVal.int IntKind.i64 (IntKind.wrap IntKind.i64 (IntKind.wrap IntKind.i64 (i - a) - 1)), AVal.int IntKind.i64 0]) ([AObj.rows false 4 [[AVal.int IntKind.i64 a, AVal.int IntKind.i64 m, AVal.slc b 1 2 0 n none, AVal.tt true]], AObj.rows true 2 rs]) [true = true,
    true = true,
    Brd (decide (i > IntKind.wrap IntKind.i64 (l + 1))) false,
    Owed.use (owed Try.prog 2) 12 [0, 1] [AVal.ptr 0 4 0 0] [AObj.rows false 4 [[AVal.int IntKind.i64 a, AVal.int IntKind.i64 m, AVal.slc b 1 2 0 n none, AVal.tt true]], AObj.rows true 2 rs] [AVal.ptr 0 4 0 0] [AObj.rows false 4 [[AVal.int IntKind.i64 a, AVal.int IntKind.i64 m, AVal.slc b 1 2 0 n none, AVal.tt true]], AObj.rows true 2 rs] (AVal.int IntKind.i64 l) [AObj.rows false 4 [[AVal.int IntKind.i64 a, AVal.int IntKind.i64 m, AVal.slc b 1 2 0 n none, AVal.tt true]], AObj.rows true 2 rs],
    Brd (decide (i ≤ a)) false,
    true = true,
    true = true,
    Brd false false,
    Owed.use (owed Try.prog 2) 22 [0, 1] [AVal.ptr 0 4 0 0] [AObj.rows false 4 [[AVal.int IntKind.i64 a, AVal.int IntKind.i64 m, AVal.slc b 1 2 0 n none, AVal.tt true]], AObj.rows true 2 rs] [AVal.ptr 0 4 0 0] [AObj.rows false 4 [[AVal.int IntKind.i64 a, AVal.int IntKind.i64 m, AVal.slc b 1 2 0 n none, AVal.tt true]], AObj.rows true 2 rs] (AVal.bool true) [AObj.rows false 4 [[AVal.int IntKind.i64 a, AVal.int IntKind.i64 m, AVal.slc b 1 2 0 n none, AVal.tt true]], AObj.rows true 2 rs]]) by kernel_rfl) (allP_of (⟨rfl, rfl, h1, ⟨h2, rfl, rfl, rfl⟩, h3, rfl, rfl, rfl, ⟨h4, rfl, rfl, rfl⟩, trivial⟩))).move ([0, 1]) (by kernel_rfl) (by kernel_rfl) (by kernel_rfl)


theorem cut_1 (a : Int) (m : Int) (i : Int) (k : Int) (e : Int) (b : Bool) (n : Nat) (rs : List (List AVal))
    (h1 : decide (0 ≤ (↑0 : Int) ∧ (↑0 : Int) ≤ k ∧ k ≤ k ∧ k ≤ (↑n : Int)) = true)
    (h2 : (e == 0) = true)
    (h3 : FOk Try.prog 25 [AVal.ptr 0 4 0 0, AVal.int IntKind.i64 i] [AObj.rows false 4 [[AVal.int IntKind.i64 a, AVal.int IntKind.i64 m, AVal.slc b 1 2 0 n none, AVal.tt true]], AObj.rows true 2 rs] (AVal.tuple [AVal.int IntKind.i64 k, AVal.int IntKind.i64 e]) [AObj.rows false 4 [[AVal.int IntKind.i64 a, AVal.int IntKind.i64 m, AVal.slc b 1 2 0 n none, AVal.tt true]], AObj.rows true 2 rs]) :
    FOk Try.prog 17 ([logP, AVal.int IntKind.i64 i]) (LogO a m b n rs) (AVal.int IntKind.i64 e) ([AObj.rows false 4 [[AVal.int IntKind.i64 a, AVal.int IntKind.i64 m, AVal.slc b 1 2 0 (Int.toNat k - 0) (some (Int.toNat k - 0)), AVal.tt true]], AObj.rows true 2 rs]) :=
  (evalF_ok followed Try.func17 (by kernel_rfl) (show evalF Try.prog Try.f17 ([logP, AVal.int IntKind.i64 i]) (LogO a m b n rs) ([Dec.use [0, 1] [AVal.ptr 0 4 0 0, AVal.int IntKind.i64 i] [AObj.rows false 4 [[AVal.int IntKind.i64 a, AVal.int IntKind.i64 m, AVal.slc b 1 2 0 n none, AVal.tt true]], AObj.rows true 2 rs] (AVal.tuple [AVal.int IntKind.i64 k, AVal.int IntKind.i64 e]) [AObj.rows false 4 [[AVal.int IntKind.i64 a, AVal.int IntKind.i64 m, AVal.slc b 1 2 0 n none, AVal.tt true]], AObj.rows true 2 rs], Dec.br true]) = .ok (FRes.mk (AVal.int IntKind.i64 e) ([AObj.rows false 4 [[AVal.int IntKind.i64 a, AVal.int IntKind.i64 m, AVal.slc b 1 2 0 (Int.toNat k - 0) (some (Int.toNat k - 0)), AVal.tt true]], AObj.rows true 2 rs]) [true = true,
    true = true,
    decide (0 ≤ (↑0 : Int) ∧ (↑0 : Int) ≤ k ∧ k ≤ k ∧ k ≤ (↑n : Int)) = true,
    true = true,
    true = true,
    Brd (e == 0) true,
    Owed.use (owed Try.prog 2) 25 [0, 1] [AVal.ptr 0 4 0 0, AVal.int IntKind.i64 i] [AObj.rows false 4 [[AVal.int IntKind.i64 a, AVal.int IntKind.i64 m, AVal.slc b 1 2 0 n none, AVal.tt true]], AObj.rows true 2 rs] [AVal.ptr 0 4 0 0, AVal.int IntKind.i64 i] [AObj.rows false 4 [[AVal.int IntKind.i64 a, AVal.int IntKind.i64 m, AVal.slc b 1 2 0 n none, AVal.tt true]], AObj.rows true 2 rs] (AVal.tuple [AVal.int IntKind.i64 k, AVal.int IntKind.i64 e]) [AObj.rows false 4 [[AVal.int IntKind.i64 a, AVal.int IntKind.i64 m, AVal.slc b 1 2 0 n none, AVal.tt true]], AObj.rows true 2 rs]]) by kernel_rfl) (allP_of (⟨rfl, rfl, h1, rfl, rfl, h2, ⟨h3, rfl, rfl, rfl⟩, trivial⟩))).move ([0, 1]) (by kernel_rfl) (by kernel_rfl) (by kernel_rfl)

theorem cut_2 (a : Int) (m : Int) (i : Int) (k : Int) (e : Int) (b : Bool) (n : Nat) (rs : List (List AVal))
    (h1 : (e == 0) = false)
    (h2 : FOk Try.prog 25 [AVal.ptr 0 4 0 0, AVal.int IntKind.i64 i] [AObj.rows false 4 [[AVal.int IntKind.i64 a, AVal.int IntKind.i64 m, AVal.slc b 1 2 0 n none, AVal.tt true]], AObj.rows true 2 rs] (AVal.tuple [AVal.int IntKind.i64 k, AVal.int IntKind.i64 e]) [AObj.rows false 4 [[AVal.int IntKind.i64 a, AVal.int IntKind.i64 m, AVal.slc b 1 2 0 n none, AVal.tt true]], AObj.rows true 2 rs]) :
    FOk Try.prog 17 ([logP, AVal.int IntKind.i64 i]) (LogO a m b n rs) (AVal.int IntKind.i64 e) ([AObj.rows false 4 [[AVal.int IntKind.i64 a, AVal.int IntKind.i64 m, AVal.slc b 1 2 0 n none, AVal.tt true]], AObj.rows true 2 rs]) :=
  (evalF_ok followed Try.func17 (by kernel_rfl) (show evalF Try.prog Try.f17 ([logP, AVal.int IntKind.i64 i]) (LogO a m b n rs) ([Dec.use [0, 1] [AVal.ptr 0 4 0 0, AVal.int IntKind.i64 i] [AObj.rows false 4 [[AVal.int IntKind.i64 a, AVal.int IntKind.i64 m, AVal.slc b 1 2 0 n none, AVal.tt true]], AObj.rows true 2 rs] (AVal.tuple [AVal.int IntKind.i64 k, AVal.int IntKind.i64 e]) [AObj.rows false 4 [[AVal.int IntKind.i64 a, AVal.int IntKind.i64 m, AVal.slc b 1 2 0 n none, AVal.tt true]], AObj.rows true 2 rs], Dec.br false]) = .ok (FRes.mk (AVal.int IntKind.i64 e) ([AObj.rows false 4 [[AVal.int IntKind.i64 a, AVal.int IntKind.i64 m, AVal.slc b 1 2 0 n none, AVal.tt true]], AObj.rows true 2 rs]) [Brd (e == 0) false,
    Owed.use (owed Try.prog 2) 25 [0, 1] [AVal.ptr 0 4 0 0, AVal.int IntKind.i64 i] [AObj.rows false 4 [[AVal.int IntKind.i64 a, AVal.int IntKind.i64 m, AVal.slc b 1 2 0 n none, AVal.tt true]], AObj.rows true 2 rs] [AVal.ptr 0 4 0 0, AVal.int IntKind.i64 i] [AObj.rows false 4 [[AVal.int IntKind.i64 a, AVal.int IntKind.i64 m, AVal.slc b 1 2 0 n none, AVal.tt true]], AObj.rows true 2 rs] (AVal.tuple [AVal.int IntKind.i64 k, AVal.int IntKind.i64 e]) [AObj.rows false 4 [[AVal.int IntKind.i64 a, AVal.int IntKind.i64 m, AVal.slc b 1 2 0 n none, AVal.tt true]], AObj.rows true 2 rs]]) by kernel_rfl) (allP_of (⟨h1, ⟨h2, rfl, rfl, rfl⟩, trivial⟩))).move ([0, 1]) (by kernel_rfl) (by kernel_rfl) (by kernel_rfl)


theorem clone_1 (b : Bool) (o : Nat) (n : Nat) (rs : List (List AVal))
    (h1 : b = true) :
    FOk Try.prog 24 ([AVal.slc b 0 2 o n none]) ([AObj.rows true 2 rs]) (AVal.fsl true 2 [] none) ([AObj.rows true 2 rs]) :=
  (evalF_ok followed Try.func24 (by kernel_rfl) (show evalF Try.prog Try.f24 ([AVal.slc b 0 2 o n none]) ([AObj.rows true 2 rs]) ([Dec.br true]) = .ok (FRes.mk (AVal.fsl true 2 [] none) ([AObj.rows true 2 rs]) [Brd b true]) by kernel_rfl) (allP_of (⟨h1, trivial⟩))).move ([0]) (by kernel_rfl) (by kernel_rfl) (by kernel_rfl)

theorem clone_2 (b : Bool) (o : Nat) (n : Nat) (rs : List (List AVal))
    (h1 : decide ((0 + List.length (Src.rs (Abs.Src.mk (List.take n (List.drop o rs)) true [decide (o + n ≤ List.length rs) = true, (List.all (List.take n (List.drop o rs)) fun r => List.all r oneCell) = true]))) * 24 ≤ 140737488355328 ∧ 0 + List.length (Src.rs (Abs.Src.mk (List.take n (List.drop o rs)) true [decide (o + n ≤ List.length rs) = true, (List.all (List.take n (List.drop o rs)) fun r => List.all r oneCell) = true])) ≤ 9223372036854775807) = true)
    (h2 : decide (o + n ≤ List.length rs) = true)
    (h3 : (List.all (List.take n (List.drop o rs)) fun r => List.all r oneCell) = true)
    (h4 : b = false) :
    FOk Try.prog 24 ([AVal.slc b 0 2 o n none]) ([AObj.rows true 2 rs]) (AVal.slc false 1 2 0 (0 + List.length (Src.rs (Abs.Src.mk (List.take n (List.drop o rs)) true [decide (o + n ≤ List.length rs) = true, (List.all (List.take n (List.drop o rs)) fun r => List.all r oneCell) = true]))) none) ([AObj.rows true 2 rs, AObj.rows true 2 ([] ++ Src.rs (Abs.Src.mk (List.take n (List.drop o rs)) true [decide (o + n ≤ List.length rs) = true, (List.all (List.take n (List.drop o rs)) fun r => List.all r oneCell) = true]))]) :=
  (evalF_ok followed Try.func24 (by kernel_rfl) (show evalF Try.prog Try.f24 ([AVal.slc b 0 2 o n none]) ([AObj.rows true 2 rs]) ([Dec.br false]) = .ok (FRes.mk (AVal.slc false 2 2 0 (0 + List.length (Src.rs (Abs.Src.mk (List.take n (List.drop o rs)) true [decide (o + n ≤ List.length rs) = true, (List.all (List.take n (List.drop o rs)) fun r => List.all r oneCell) = true]))) none) ([AObj.rows true 2 rs, AObj.dead, AObj.rows true 2 ([] ++ Src.rs (Abs.Src.mk (List.take n (List.drop o rs)) true [decide (o + n ≤ List.length rs) = true, (List.all (List.take n (List.drop o rs)) fun r => List.all r oneCell) = true]))]) [true = true,
    decide ((0 + List.length (Src.rs (Abs.Src.mk (List.take n (List.drop o rs)) true [decide (o + n ≤ List.length rs) = true, (List.all (List.take n (List.drop o rs)) fun r => List.all r oneCell) = true]))) * 24 ≤ 140737488355328 ∧ 0 + List.length (Src.rs (Abs.Src.mk (List.take n (List.drop o rs)) true [decide (o + n ≤ List.length rs) = true, (List.all (List.take n (List.drop o rs)) fun r => List.all r oneCell) = true])) ≤ 9223372036854775807) = true,
    decide (o + n ≤ List.length rs) = true,
    (List.all (List.take n (List.drop o rs)) fun r => List.all r oneCell) = true,
    Brd b false]) by kernel_rfl) (allP_of (⟨rfl, h1, h2, h3, h4, trivial⟩))).move ([0, 2]) (by kernel_rfl) (by kernel_rfl) (by kernel_rfl)


theorem newer_1 (a : Int) (m : Int) (l : Int) (e : Int) (i : Int) (t : Int) (b : Bool) (n : Nat) (rs : List (List AVal))
    (h1 : decide (t > e) = true)
    (h2 : FOk Try.prog 23 [AVal.ptr 0 4 0 0] [AObj.rows false 4 [[AVal.int IntKind.i64 a, AVal.int IntKind.i64 m, AVal.slc b 1 2 0 n none, AVal.tt true]], AObj.rows true 2 rs] (AVal.int IntKind.i64 e) [AObj.rows false 4 [[AVal.int IntKind.i64 a, AVal.int IntKind.i64 m, AVal.slc b 1 2 0 n none, AVal.tt true]], AObj.rows true 2 rs])
    (h3 : FOk Try.prog 22 [AVal.ptr 0 4 0 0] [AObj.rows false 4 [[AVal.int IntKind.i64 a, AVal.int IntKind.i64 m, AVal.slc b 1 2 0 n none, AVal.tt true]], AObj.rows true 2 rs] (AVal.bool true) [AObj.rows false 4 [[AVal.int IntKind.i64 a, AVal.int IntKind.i64 m, AVal.slc b 1 2 0 n none, AVal.tt true]], AObj.rows true 2 rs]) :
    FOk Try.prog 13 ([logP, AVal.int IntKind.i64 i, AVal.int IntKind.i64 t]) (LogO a m b n rs) (AVal.bool true) ([AObj.rows false 4 [[AVal.int IntKind.i64 a, AVal.int IntKind.i64 m, AVal.slc b 1 2 0 n none, AVal.tt true]], AObj.rows true 2 rs]) :=
  (evalF_ok followed Try.func13 (by kernel_rfl) (show evalF Try.prog Try.f13 ([logP, AVal.int IntKind.i64 i, AVal.int IntKind.i64 t]) (LogO a m b n rs) ([Dec.use [0, 1] [AVal.ptr 0 4 0 0] [AObj.rows false 4 [[AVal.int IntKind.i64 a, AVal.int IntKind.i64 m, AVal.slc b 1 2 0 n none, AVal.tt true]], AObj.rows true 2 rs] (AVal.bool true) [AObj.rows false 4 [[AVal.int IntKind.i64 a, AVal.int IntKind.i64 m, AVal.slc b 1 2 0 n none, AVal.tt true]], AObj.rows true 2 rs], Dec.br true, Dec.use [0, 1] [AVal.ptr 0 4 0 0] [AObj.rows false 4 [[AVal.int IntKind.i64 a, AVal.int IntKind.i64 m, AVal.slc b 1 2 0 n none, AVal.tt true]], AObj.rows true 2 rs] (AVal.int IntKind.i64 e) [AObj.rows false 4 [[AVal.int IntKind.i64 a, AVal.int IntKind.i64 m, AVal.slc b 1 2 0 n none, AVal.tt true]], AObj.rows true 2 rs], Dec.br true]) = .ok (FRes.mk (AVal.bool true) ([AObj.rows false 4 [[AVal.int IntKind.i64 a, AVal.int IntKind.i64 m, AVal.slc b 1 2 0 n none, AVal.tt true]], AObj.rows true 2 rs]) [Brd (decide (t > e)) true,
    Owed.use (owed Try.prog 2) 23 [0, 1] [AVal.ptr 0 4 0 0] [AObj.rows false 4 [[AVal.int IntKind.i64 a, AVal.int IntKind.i64 m, AVal.slc b 1 2 0 n none, AVal.tt true]], AObj.rows true 2 rs] [AVal.ptr 0 4 0 0] [AObj.rows false 4 [[AVal.int IntKind.i64 a, AVal.int IntKind.i64 m, AVal.slc b 1 2 0 n none, AVal.tt true]], AObj.rows true 2 rs] (AVal.int IntKind.i64 e) [AObj.rows false 4 [[AVal.int IntKind.i64 a, AVal.int IntKind.i64 m, AVal.slc b 1 2 0 n none, AVal.tt true]], AObj.rows true 2 rs],
    Brd true true,
    Owed.use (owed Try.prog 2) 22 [0, 1] [AVal.ptr 0 4 0 0] [AObj.rows false 4 [[AVal.int IntKind.i64 a, AVal.int IntKind.i64 m, AVal.slc b 1 2 0 n none, AVal.tt true]], AObj.rows true 2 rs] [AVal.ptr 0 4 0 0] [AObj.rows false 4 [[AVal.int IntKind.i64 a, AVal.int IntKind.i64 m, AVal.slc b 1 2 0 n none, AVal.tt true]], AObj.rows true 2 rs] (AVal.bool true) [AObj.rows false 4 [[AVal.int IntKind.i64 a, AVal.int IntKind.i64 m, AVal.slc b 1 2 0 n none, AVal.tt true]], AObj.rows true 2 rs]]) by kernel_rfl) (allP_of (⟨h1, ⟨h2, rfl, rfl, rfl⟩, rfl, ⟨h3, rfl, rfl, rfl⟩, trivial⟩))).move ([0, 1]) (by kernel_rfl) (by kernel_rfl) (by kernel_rfl)

theorem newer_2 (a : Int) (m : Int) (l : Int) (e : Int) (i : Int) (t : Int) (b : Bool) (n : Nat) (rs : List (List AVal))
    (h1 : FOk Try.prog 12 [AVal.ptr 0 4 0 0] [AObj.rows false 4 [[AVal.int IntKind.i64 a, AVal.int IntKind.i64 m, AVal.slc b 1 2 0 n none, AVal.tt true]], AObj.rows true 2 rs] (AVal.int IntKind.i64 l) [AObj.rows false 4 [[AVal.int IntKind.i64 a, AVal.int IntKind.i64 m, AVal.slc b 1 2 0 n none, AVal.tt true]], AObj.rows true 2 rs])
    (h2 : (t == e) = true)
    (h3 : FOk Try.prog 23 [AVal.ptr 0 4 0 0] [AObj.rows false 4 [[AVal.int IntKind.i64 a, AVal.int IntKind.i64 m, AVal.slc b 1 2 0 n none, AVal.tt true]], AObj.rows true 2 rs] (AVal.int IntKind.i64 e) [AObj.rows false 4 [[AVal.int IntKind.i64 a, AVal.int IntKind.i64 m, AVal.slc b 1 2 0 n none, AVal.tt true]], AObj.rows true 2 rs])
    (h4 : decide (t > e) = false)
    (h5 : FOk Try.prog 22 [AVal.ptr 0 4 0 0] [AObj.rows false 4 [[AVal.int IntKind.i64 a, AVal.int IntKind.i64 m, AVal.slc b 1 2 0 n none, AVal.tt true]], AObj.rows true 2 rs] (AVal.bool true) [AObj.rows false 4 [[AVal.int IntKind.i64 a, AVal.int IntKind.i64 m, AVal.slc b 1 2 0 n none, AVal.tt true]], AObj.rows true 2 rs]) :
    FOk Try.prog 13 ([logP, AVal.int IntKind.i64 i, AVal.int IntKind.i64 t]) (LogO a m b n rs) (AVal.bool (decide (i ≥ l))) ([AObj.rows false 4 [[AVal.int IntKind.i64 a, AVal.int IntKind.i64 m, AVal.slc b 1 2 0 n none, AVal.tt true]], AObj.rows true 2 rs]) :=
  (evalF_ok followed Try.func13 (by kernel_rfl) (show evalF Try.prog Try.f13 ([logP, AVal.int IntKind.i64 i, AVal.int IntKind.i64 t]) (LogO a m b n rs) ([Dec.use [0, 1] [AVal.ptr 0 4 0 0] [AObj.rows false 4 [[AVal.int IntKind.i64 a, AVal.int IntKind.i64 m, AVal.slc b 1 2 0 n none, AVal.tt true]], AObj.rows true 2 rs] (AVal.bool true) [AObj.rows false 4 [[AVal.int IntKind.i64 a, AVal.int IntKind.i64 m, AVal.slc b 1 2 0 n none, AVal.tt true]], AObj.rows true 2 rs], Dec.br true, Dec.use [0, 1] [AVal.ptr 0 4 0 0] [AObj.rows false 4 [[AVal.int IntKind.i64 a, AVal.int IntKind.i64 m, AVal.slc b 1 2 0 n none, AVal.tt true]], AObj.rows true 2 rs] (AVal.int IntKind.i64 e) [AObj.rows false 4 [[AVal.int IntKind.i64 a, AVal.int IntKind.i64 m, AVal.slc b 1 2 0 n none, AVal.tt true]], AObj.rows true 2 rs], Dec.br false, Dec.use [0, 1] [AVal.ptr 0 4 0 0] [AObj.rows false 4 [[AVal.int IntKind.i64 a, AVal.int IntKind.i64 m, AVal.slc b 1 2 0 n none, AVal.tt true]], AObj.rows true 2 rs] (AVal.int IntKind.i64 e) [AObj.rows false 4 [[AVal.int IntKind.i64 a, AVal.int IntKind.i64 m, AVal.slc b 1 2 0 n none, AVal.tt true]], AObj.rows true 2 rs], Dec.br true, Dec.use [0, 1] [AVal.ptr 0 4 0 0] [AObj.rows false 4 [[AVal.int IntKind.i64 a, AVal.int IntKind.i64 m, AVal.slc b 1 2 0 n none, AVal.tt true]], AObj.rows true 2 rs] (AVal.int IntKind.i64 l) [AObj.rows false 4 [[AVal.int IntKind.i64 a, AVal.int IntKind.i64 m, AVal.slc b 1 2 0 n none, AVal.tt true]], AObj.rows true 2 rs]]) = .ok (FRes.mk (AVal.bool (decide (i ≥ l))) ([AObj.rows false 4 [[AVal.int IntKind.i64 a, AVal.int IntKind.i64 m, AVal.slc b 1 2 0 n none, AVal.tt true]], AObj.rows true 2 rs]) [Owed.use (owed Try.prog 2) 12 [0, 1] [AVal.ptr 0 4 0 0] [AObj.rows false 4 [[AVal.int IntKind.i64 a, AVal.int IntKind.i64 m, AVal.slc b 1 2 0 n none, AVal.tt true]], AObj.rows true 2 rs] [AVal.ptr 0 4 0 0] [AObj.rows false 4 [[AVal.int IntKind.i64 a, AVal.int IntKind.i64 m, AVal.slc b 1 2 0 n none, AVal.tt true]], AObj.rows true 2 rs] (AVal.int IntKind.i64 l) [AObj.rows false 4 [[AVal.int IntKind.i64 a, AVal.int IntKind.i64 m, AVal.slc b 1 2 0 n none, AVal.tt true]], AObj.rows true 2 rs],
    Brd (t == e) true,
    Owed.use (owed Try.prog 2) 23 [0, 1] [AVal.ptr 0 4 0 0] [AObj.rows false 4 [[AVal.int IntKind.i64 a, AVal.int IntKind.i64 m, AVal.slc b 1 2 0 n none, AVal.tt true]], AObj.rows true 2 rs] [AVal.ptr 0 4 0 0] [AObj.rows false 4 [[AVal.int IntKind.i64 a, AVal.int IntKind.i64 m, AVal.slc b 1 2 0 n none, AVal.tt true]], AObj.rows true 2 rs] (AVal.int IntKind.i64 e) [AObj.rows false 4 [[AVal.int IntKind.i64 a, AVal.int IntKind.i64 m, AVal.slc b 1 2 0 n none, AVal.tt true]], AObj.rows true 2 rs],
    Brd (decide (t > e)) false,
    Owed.use (owed Try.prog 2) 23 [0, 1] [AVal.ptr 0 4 0 0] [AObj.rows false 4 [[AVal.int IntKind.i64 a, AVal.int IntKind.i64 m, AVal.slc b 1 2 0 n none, AVal.tt true]], AObj.rows true 2 rs] [AVal.ptr 0 4 0 0] [AObj.rows false 4 [[AVal.int IntKind.i64 a, AVal.int IntKind.i64 m, AVal.slc b 1 2 0 n none, AVal.tt true]], AObj.rows true 2 rs] (AVal.int IntKind.i64 e) [AObj.rows false 4 [[AVal.int IntKind.i64 a, AVal.int IntKind.i64 m, AVal.slc b 1 2 0 n none, AVal.tt true]], AObj.rows true 2 rs],
    Brd true true,
    Owed.use (owed Try.prog 2) 22 [0, 1] [AVal.ptr 0 4 0 0] [AObj.rows false 4 [[AVal.int IntKind.i64 a, AVal.int IntKind.i64 m, AVal.slc b 1 2 0 n none, AVal.tt true]], AObj.rows true 2 rs] [AVal.ptr 0 4 0 0] [AObj.rows false 4 [[AVal.int IntKind.i64 a, AVal.int IntKind.i64 m, AVal.slc b 1 2 0 n none, AVal.tt true]], AObj.rows true 2 rs] (AVal.bool true) [AObj.rows false 4 [[AVal.int IntKind.i64 a, AVal.int IntKind.i64 m, AVal.slc b 1 2 0 n none, AVal.tt true]], AObj.rows true 2 rs]]) by kernel_rfl) (allP_of (⟨⟨h1, rfl, rfl, rfl⟩, h2, ⟨h3, rfl, rfl, rfl⟩, h4, ⟨h3, rfl, rfl, rfl⟩, rfl, ⟨h5, rfl, rfl, rfl⟩, trivial⟩))).move ([0, 1]) (by kernel_rfl) (by kernel_rfl) (by kernel_rfl)

theorem newer_3 (a : Int) (m : Int) (l : Int) (e : Int) (i : Int) (t : Int) (b : Bool) (n : Nat) (rs : List (List AVal))
    (h1 : (t == e) = false)
    (h2 : FOk Try.prog 23 [AVal.ptr 0 4 0 0] [AObj.rows false 4 [[AVal.int IntKind.i64 a, AVal.int IntKind.i64 m, AVal.slc b 1 2 0 n none, AVal.tt true]], AObj.rows true 2 rs] (AVal.int IntKind.i64 e) [AObj.rows false 4 [[AVal.int IntKind.i64 a, AVal.int IntKind.i64 m, AVal.slc b 1 2 0 n none, AVal.tt true]], AObj.rows true 2 rs])
    (h3 : decide (t > e) = false)
    (h4 : FOk Try.prog 22 [AVal.ptr 0 4 0 0] [AObj.rows false 4 [[AVal.int IntKind.i64 a, AVal.int IntKind.i64 m, AVal.slc b 1 2 0 n none, AVal.tt true]], AObj.rows true 2 rs] (AVal.bool true) [AObj.rows false 4 [[AVal.int IntKind.i64 a, AVal.int IntKind.i64 m, AVal.slc b 1 2 0 n none, AVal.tt true]], AObj.rows true 2 rs]) :
    FOk Try.prog 13 ([logP, AVal.int IntKind.i64 i, AVal.int IntKind.i64 t]) (LogO a m b n rs) (AVal.bool false) ([AObj.rows false 4 [[AVal.int IntKind.i64 a, AVal.int IntKind.i64 m, AVal.slc b 1 2 0 n none, AVal.tt true]], AObj.rows true 2 rs]) :=
  (evalF_ok followed Try.func13 (by kernel_rfl) (show evalF Try.prog Try.f13 ([logP, AVal.int IntKind.i64 i, AVal.int IntKind.i64 t]) (LogO a m b n rs) ([Dec.use [0, 1] [AVal.ptr 0 4 0 0] [AObj.rows false 4 [[AVal.int IntKind.i64 a, AVal.int IntKind.i64 m, AVal.slc b 1 2 0 n none, AVal.tt true]], AObj.rows true 2 rs] (AVal.bool true) [AObj.rows false 4 [[AVal.int IntKind.i64 a, AVal.int IntKind.i64 m, AVal.slc b 1 2 0 n none, AVal.tt true]], AObj.rows true 2 rs], Dec.br true, Dec.use [0, 1] [AVal.ptr 0 4 0 0] [AObj.rows false 4 [[AVal.int IntKind.i64 a, AVal.int IntKind.i64 m, AVal.slc b 1 2 0 n none, AVal.tt true]], AObj.rows true 2 rs] (AVal.int IntKind.i64 e) [AObj.rows false 4 [[AVal.int IntKind.i64 a, AVal.int IntKind.i64 m, AVal.slc b 1 2 0 n none, AVal.tt true]], AObj.rows true 2 rs], Dec.br false, Dec.use [0, 1] [AVal.ptr 0 4 0 0] [AObj.rows false 4 [[AVal.int IntKind.i64 a, AVal.int IntKind.i64 m, AVal.slc b 1 2 0 n none, AVal.tt true]], AObj.rows true 2 rs] (AVal.int IntKind.i64 e) [AObj.rows false 4 [[AVal.int IntKind.i64 a, AVal.int IntKind.i64 m, AVal.slc b 1 2 0 n none, AVal.tt true]], AObj.rows true 2 rs], Dec.br false]) = .ok (FRes.mk (AVal.bool false) ([AObj.rows false 4 [[AVal.int IntKind.i64 a, AVal.int IntKind.i64 m, AVal.slc b 1 2 0 n none, AVal.tt true]], AObj.rows true 2 rs]) [Brd (t == e) false,
    Owed.use (owed Try.prog 2) 23 [0, 1] [AVal.ptr 0 4 0 0] [AObj.rows false 4 [[AVal.int IntKind.i64 a, AVal.int IntKind.i64 m, AVal.slc b 1 2 0 n none, AVal.tt true]], AObj.rows true 2 rs] [AVal.ptr 0 4 0 0] [AObj.rows false 4 [[AVal.int IntKind.i64 a, AVal.int IntKind.i64 m, AVal.slc b 1 2 0 n none, AVal.tt true]], AObj.rows true 2 rs] (AVal.int IntKind.i64 e) [AObj.rows false 4 [[AVal.int IntKind.i64 a, AVal.int IntKind.i64 m, AVal.slc b 1 2 0 n none, AVal.tt true]], AObj.rows true 2 rs],
    Brd (decide (t > e)) false,
    Owed.use (owed Try.prog 2) 23 [0, 1] [AVal.ptr 0 4 0 0] [AObj.rows false 4 [[AVal.int IntKind.i64 a, AVal.int IntKind.i64 m, AVal.slc b 1 2 0 n none, AVal.tt true]], AObj.rows true 2 rs] [AVal.ptr 0 4 0 0] [AObj.rows false 4 [[AVal.int IntKind.i64 a, AVal.int IntKind.i64 m, AVal.slc b 1 2 0 n none, AVal.tt true]], AObj.rows true 2 rs] (AVal.int IntKind.i64 e) [AObj.rows false 4 [[AVal.int IntKind.i64 a, AVal.int IntKind.i64 m, AVal.slc b 1 2 0 n none, AVal.tt true]], AObj.rows true 2 rs],
    Brd true true,
    Owed.use (owed Try.prog 2) 22 [0, 1] [AVal.ptr 0 4 0 0] [AObj.rows false 4 [[AVal.int IntKind.i64 a, AVal.int IntKind.i64 m, AVal.slc b 1 2 0 n none, AVal.tt true]], AObj.rows true 2 rs] [AVal.ptr 0 4 0 0] [AObj.rows false 4 [[AVal.int IntKind.i64 a, AVal.int IntKind.i64 m, AVal.slc b 1 2 0 n none, AVal.tt true]], AObj.rows true 2 rs] (AVal.bool true) [AObj.rows false 4 [[AVal.int IntKind.i64 a, AVal.int IntKind.i64 m, AVal.slc b 1 2 0 n none, AVal.tt true]], AObj.rows true 2 rs]]) by kernel_rfl) (allP_of (⟨h1, ⟨h2, rfl, rfl, rfl⟩, h3, ⟨h2, rfl, rfl, rfl⟩, rfl, ⟨h4, rfl, rfl, rfl⟩, trivial⟩))).move ([0, 1]) (by kernel_rfl) (by kernel_rfl) (by kernel_rfl)


end Go.L06

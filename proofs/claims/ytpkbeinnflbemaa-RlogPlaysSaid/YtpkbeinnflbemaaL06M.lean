import Derived.Test.YtpkbeinnflbemaaL06F
set_option linter.unusedVariables false
set_option maxRecDepth 100000
namespace Go.L06
open Go Go.Abs Go.Proofs

/-- the document's log -/
abbrev qV (a m : Int) (b : Bool) (rs : List (List AVal)) : AVal := .agg [.int .i64 a, .int .i64 m, .fsl b 2 rs none]
theorem rnew_1 (a : Int) (m : Int)
    (h1 : decide (a < 0) = true) :
    FOk Try.prog 18 ([AVal.int IntKind.i64 a, AVal.int IntKind.i64 m]) ([]) (AVal.tuple [AVal.agg [AVal.int IntKind.i64 0, AVal.int IntKind.i64 0, AVal.fsl true 2 [] none], AVal.int IntKind.i64 1]) ([]) :=
  (evalF_ok followed Try.func18 (by kernel_rfl) (show evalF Try.prog Try.f18 ([AVal.int IntKind.i64 a, AVal.int IntKind.i64 m]) ([]) ([Dec.br true]) = .ok (FRes.mk (AVal.tuple [AVal.agg [AVal.int IntKind.i64 0, AVal.int IntKind.i64 0, AVal.fsl true 2 [] none], AVal.int IntKind.i64 1]) ([AObj.rows false 3 [[AVal.int IntKind.i64 0, AVal.int IntKind.i64 0, AVal.fsl true 0 [] (some 0)]]]) [true = true,
    true = true,
    true = true,
    true = true,
    decide (a < 0) = true]) by kernel_rfl) (allP_of (⟨rfl, rfl, rfl, rfl, h1, trivial⟩))).move ([]) (by kernel_rfl) (by kernel_rfl) (by kernel_rfl)

theorem rnew_2 (a : Int) (m : Int)
    (h1 : decide (a > 1099511627776) = true)
    (h2 : decide (a < 0) = false) :
    FOk Try.prog 18 ([AVal.int IntKind.i64 a, AVal.int IntKind.i64 m]) ([]) (AVal.tuple [AVal.agg [AVal.int IntKind.i64 0, AVal.int IntKind.i64 0, AVal.fsl true 2 [] none], AVal.int IntKind.i64 1]) ([]) :=
  (evalF_ok followed Try.func18 (by kernel_rfl) (show evalF Try.prog Try.f18 ([AVal.int IntKind.i64 a, AVal.int IntKind.i64 m]) ([]) ([Dec.br false, Dec.br true]) = .ok (FRes.mk (AVal.tuple [AVal.agg [AVal.int IntKind.i64 0, AVal.int IntKind.i64 0, AVal.fsl true 2 [] none], AVal.int IntKind.i64 1]) ([AObj.rows false 3 [[AVal.int IntKind.i64 0, AVal.int IntKind.i64 0, AVal.fsl true 0 [] (some 0)]]]) [true = true,
    true = true,
    true = true,
    true = true,
    decide (a > 1099511627776) = true,
    decide (a < 0) = false]) by kernel_rfl) (allP_of (⟨rfl, rfl, rfl, rfl, h1, h2, trivial⟩))).move ([]) (by kernel_rfl) (by kernel_rfl) (by kernel_rfl)

theorem rnew_3 (a : Int) (m : Int)
    (h1 : decide (m < 0) = true)
    (h2 : decide (a > 1099511627776) = false)
    (h3 : decide (a < 0) = false) :
    FOk Try.prog 18 ([AVal.int IntKind.i64 a, AVal.int IntKind.i64 m]) ([]) (AVal.tuple [AVal.agg [AVal.int IntKind.i64 0, AVal.int IntKind.i64 0, AVal.fsl true 2 [] none], AVal.int IntKind.i64 1]) ([]) :=
  (evalF_ok followed Try.func18 (by kernel_rfl) (show evalF Try.prog Try.f18 ([AVal.int IntKind.i64 a, AVal.int IntKind.i64 m]) ([]) ([Dec.br false, Dec.br false, Dec.br true]) = .ok (FRes.mk (AVal.tuple [AVal.agg [AVal.int IntKind.i64 0, AVal.int IntKind.i64 0, AVal.fsl true 2 [] none], AVal.int IntKind.i64 1]) ([AObj.rows false 3 [[AVal.int IntKind.i64 0, AVal.int IntKind.i64 0, AVal.fsl true 0 [] (some 0)]]]) [true = true,
    true = true,
    true = true,
    true = true,
    decide (m < 0) = true,
    decide (a > 1099511627776) = false,
    decide (a < 0) = false]) by kernel_rfl) (allP_of (⟨rfl, rfl, rfl, rfl, h1, h2, h3, trivial⟩))).move ([]) (by kernel_rfl) (by kernel_rfl) (by kernel_rfl)

theorem rnew_4 (a : Int) (m : Int)
    (h1 : decide (m > 1099511627776) = true)
    (h2 : decide (m < 0) = false)
    (h3 : decide (a > 1099511627776) = false)
    (h4 : decide (a < 0) = false) :
    FOk Try.prog 18 ([AVal.int IntKind.i64 a, AVal.int IntKind.i64 m]) ([]) (AVal.tuple [AVal.agg [AVal.int IntKind.i64 0, AVal.int IntKind.i64 0, AVal.fsl true 2 [] none], AVal.int IntKind.i64 1]) ([]) :=
  (evalF_ok followed Try.func18 (by kernel_rfl) (show evalF Try.prog Try.f18 ([AVal.int IntKind.i64 a, AVal.int IntKind.i64 m]) ([]) ([Dec.br false, Dec.br false, Dec.br false, Dec.br true]) = .ok (FRes.mk (AVal.tuple [AVal.agg [AVal.int IntKind.i64 0, AVal.int IntKind.i64 0, AVal.fsl true 2 [] none], AVal.int IntKind.i64 1]) ([AObj.rows false 3 [[AVal.int IntKind.i64 0, AVal.int IntKind.i64 0, AVal.fsl true 0 [] (some 0)]]]) [true = true,
    true = true,
    true = true,
    true = true,
    decide (m > 1099511627776) = true,
    decide (m < 0) = false,
    decide (a > 1099511627776) = false,
    decide (a < 0) = false]) by kernel_rfl) (allP_of (⟨rfl, rfl, rfl, rfl, h1, h2, h3, h4, trivial⟩))).move ([]) (by kernel_rfl) (by kernel_rfl) (by kernel_rfl)

theorem rnew_5 (a : Int) (m : Int)
    (h1 : decide (m > 1099511627776) = false)
    (h2 : decide (m < 0) = false)
    (h3 : decide (a > 1099511627776) = false)
    (h4 : decide (a < 0) = false) :
    FOk Try.prog 18 ([AVal.int IntKind.i64 a, AVal.int IntKind.i64 m]) ([]) (AVal.tuple [AVal.agg [AVal.int IntKind.i64 a, AVal.int IntKind.i64 m, AVal.fsl true 2 [] none], AVal.int IntKind.i64 0]) ([]) :=
  (evalF_ok followed Try.func18 (by kernel_rfl) (show evalF Try.prog Try.f18 ([AVal.int IntKind.i64 a, AVal.int IntKind.i64 m]) ([]) ([Dec.br false, Dec.br false, Dec.br false, Dec.br false]) = .ok (FRes.mk (AVal.tuple [AVal.agg [AVal.int IntKind.i64 a, AVal.int IntKind.i64 m, AVal.fsl true 2 [] none], AVal.int IntKind.i64 0]) ([AObj.rows false 3 [[AVal.int IntKind.i64 a, AVal.int IntKind.i64 m, AVal.fsl true 0 [] (some 0)]]]) [true = true,
    true = true,
    true = true,
    true = true,
    decide (m > 1099511627776) = false,
    decide (m < 0) = false,
    decide (a > 1099511627776) = false,
    decide (a < 0) = false]) by kernel_rfl) (allP_of (⟨rfl, rfl, rfl, rfl, h1, h2, h3, h4, trivial⟩))).move ([]) (by kernel_rfl) (by kernel_rfl) (by kernel_rfl)


theorem rlast_1 (a : Int) (m : Int) (b : Bool) (rs : List (List AVal)) :
    FOk Try.prog 34 ([qV a m b rs]) ([]) (AVal.int IntKind.i64 (IntKind.wrap IntKind.i64 (a + (↑(List.length rs) : Int)))) ([]) :=
  (evalF_ok followed Try.func34 (by kernel_rfl) (show evalF Try.prog Try.f34 ([qV a m b rs]) ([]) ([]) = .ok (FRes.mk (AVal.int IntKind.i64 (IntKind.wrap IntKind.i64 (a + (↑(List.length rs) : Int)))) ([AObj.rows false 3 [[AVal.int IntKind.i64 a, AVal.int IntKind.i64 m, AVal.fsl b 2 rs none]]]) [true = true,
    true = true,
    true = true,
    true = true]) by kernel_rfl) (allP_of (⟨rfl, rfl, rfl, rfl, trivial⟩))).move ([]) (by kernel_rfl) (by kernel_rfl) (by kernel_rfl)


theorem rterm_1 (a : Int) (m : Int) (l : Int) (i : Int) (b : Bool) (rs : List (List AVal))
    (h1 : decide (i < a) = true) :
    FOk Try.prog 29 ([qV a m b rs, AVal.int IntKind.i64 i]) ([]) (AVal.tuple [AVal.int IntKind.i64 0, AVal.int IntKind.i64 60]) ([]) :=
  (evalF_ok followed Try.func29 (by kernel_rfl) (show evalF Try.prog Try.f29 ([qV a m b rs, AVal.int IntKind.i64 i]) ([]) ([Dec.br true]) = .ok (FRes.mk (AVal.tuple [AVal.int IntKind.i64 0, AVal.int IntKind.i64 60]) ([AObj.rows false 3 [[AVal.int IntKind.i64 a, AVal.int IntKind.i64 m, AVal.fsl b 2 rs none]]]) [decide (i < a) = true,
    true = true,
    true = true]) by kernel_rfl) (allP_of (⟨h1, rfl, rfl, trivial⟩))).move ([]) (by kernel_rfl) (by kernel_rfl) (by kernel_rfl)

theorem rterm_2 (a : Int) (m : Int) (l : Int) (i : Int) (b : Bool) (rs : List (List AVal))
    (h1 : decide (i > l) = true)
    (h2 : FOk Try.prog 34 [AVal.agg [AVal.int IntKind.i64 a, AVal.int IntKind.i64 m, AVal.fsl b 2 rs none]] [] (AVal.int IntKind.i64 l) [])
    (h3 : decide (i < a) = false) :
    FOk Try.prog 29 ([qV a m b rs, AVal.int IntKind.i64 i]) ([]) (AVal.tuple [AVal.int IntKind.i64 0, AVal.int IntKind.i64 3]) ([]) :=
  (evalF_ok followed Try.func29 (by kernel_rfl) (show evalF Try.prog Try.f29 ([qV a m b rs, AVal.int IntKind.i64 i]) ([]) ([Dec.br false, Dec.use [] [AVal.agg [AVal.int IntKind.i64 a, AVal.int IntKind.i64 m, AVal.fsl b 2 rs none]] [] (AVal.int IntKind.i64 l) [], Dec.br true]) = .ok (FRes.mk (AVal.tuple [AVal.int IntKind.i64 0, AVal.int IntKind.i64 3]) ([AObj.rows false 3 [[AVal.int IntKind.i64 a, AVal.int IntKind.i64 m, AVal.fsl b 2 rs none]]]) [decide (i > l) = true,
    Owed.use (owed Try.prog 0) 34 [] [AVal.agg [AVal.int IntKind.i64 a, AVal.int IntKind.i64 m, AVal.fsl b 2 rs none]] [AObj.rows false 3 [[AVal.int IntKind.i64 a, AVal.int IntKind.i64 m, AVal.fsl b 2 rs none]]] [AVal.agg [AVal.int IntKind.i64 a, AVal.int IntKind.i64 m, AVal.fsl b 2 rs none]] [] (AVal.int IntKind.i64 l) [],
    true = true,
    true = true,
    decide (i < a) = false,
    true = true,
    true = true]) by kernel_rfl) (allP_of (⟨h1, ⟨h2, rfl, rfl, rfl⟩, rfl, rfl, h3, rfl, rfl, trivial⟩))).move ([]) (by kernel_rfl) (by kernel_rfl) (by kernel_rfl)

theorem rterm_3 (a : Int) (m : Int) (l : Int) (i : Int) (b : Bool) (rs : List (List AVal))
    (h1 : (i == a) = true)
    (h2 : decide (i > l) = false)
    (h3 : FOk Try.prog 34 [AVal.agg [AVal.int IntKind.i64 a, AVal.int IntKind.i64 m, AVal.fsl b 2 rs none]] [] (AVal.int IntKind.i64 l) [])
    (h4 : decide (i < a) = false) :
    FOk Try.prog 29 ([qV a m b rs, AVal.int IntKind.i64 i]) ([]) (AVal.tuple [AVal.int IntKind.i64 m, AVal.int IntKind.i64 0]) ([]) :=
  (evalF_ok followed Try.func29 (by kernel_rfl) (show evalF Try.prog Try.f29 ([qV a m b rs, AVal.int IntKind.i64 i]) ([]) ([Dec.br false, Dec.use [] [AVal.agg [AVal.int IntKind.i64 a, AVal.int IntKind.i64 m, AVal.fsl b 2 rs none]] [] (AVal.int IntKind.i64 l) [], Dec.br false, Dec.br true]) = .ok (FRes.mk (AVal.tuple [AVal.int IntKind.i64 m, AVal.int IntKind.i64 0]) ([AObj.rows false 3 [[AVal.int IntKind.i64 a, AVal.int IntKind.i64 m, AVal.fsl b 2 rs none]]]) [true = true,
    true = true,
    (i == a) = true,
    true = true,
    true = true,
    decide (i > l) = false,
    Owed.use (owed Try.prog 0) 34 [] [AVal.agg [AVal.int IntKind.i64 a, AVal.int IntKind.i64 m, AVal.fsl b 2 rs none]] [AObj.rows false 3 [[AVal.int IntKind.i64 a, AVal.int IntKind.i64 m, AVal.fsl b 2 rs none]]] [AVal.agg [AVal.int IntKind.i64 a, AVal.int IntKind.i64 m, AVal.fsl b 2 rs none]] [] (AVal.int IntKind.i64 l) [],
    true = true,
    true = true,
    decide (i < a) = false,
    true = true,
    true = true]) by kernel_rfl) (allP_of (⟨rfl, rfl, h1, rfl, rfl, h2, ⟨h3, rfl, rfl, rfl⟩, rfl, rfl, h4, rfl, rfl, trivial⟩))).move ([]) (by kernel_rfl) (by kernel_rfl) (by kernel_rfl)

theorem rterm_4 (a : Int) (m : Int) (l : Int) (i : Int) (b : Bool) (rs : List (List AVal))
    (h1 : decide (Int.toNat (IntKind.wrap IntKind.i64 (IntKind.wrap IntKind.i64 (i - a) - 1)) < List.length rs) = true)
    (h2 : areKinds [Kind.int IntKind.i64] [List.getD (List.getD rs (Int.toNat (IntKind.wrap IntKind.i64 (IntKind.wrap IntKind.i64 (i - a) - 1))) []) 0 AVal.any] = true)
    (h3 : decide (0 ≤ IntKind.wrap IntKind.i64 (IntKind.wrap IntKind.i64 (i - a) - 1) ∧ IntKind.wrap IntKind.i64 (IntKind.wrap IntKind.i64 (i - a) - 1) < (↑(List.length rs) : Int)) = true)
    (h4 : (i == a) = false)
    (h5 : decide (i > l) = false)
    (h6 : FOk Try.prog 34 [AVal.agg [AVal.int IntKind.i64 a, AVal.int IntKind.i64 m, AVal.fsl b 2 rs none]] [] (AVal.int IntKind.i64 l) [])
    (h7 : decide (i < a) = false) :
    FOk Try.prog 29 ([qV a m b rs, AVal.int IntKind.i64 i]) ([]) (AVal.tuple [AVal.int IntKind.i64 (AVal.toInt (List.getD (List.getD rs (Int.toNat (IntKind.wrap IntKind.i64 (IntKind.wrap IntKind.i64 (i - a) - 1))) []) 0 AVal.any)), AVal.int IntKind.i64 0]) ([]) :=
  (evalF_ok followed Try.func29 (by kernel_rfl) (show evalF Try.prog Try.f29 ([qV a m b rs, AVal.int IntKind.i64 i]) ([]) ([Dec.br false, Dec.use [] [AVal.agg [AVal.int IntKind.i64 a, AVal.int IntKind.i64 m, AVal.fsl b 2 rs none]] [] (AVal.int IntKind.i64 l) [], Dec.br false, Dec.br false]) = .ok (FRes.mk (AVal.tuple [AVal.int IntKind.i64 (AVal.toInt (List.getD (List.getD rs (Int.toNat (IntKind.wrap IntKind.i64 (IntKind.wrap IntKind.i64 (i - a) - 1))) []) 0 AVal.any)), AVal.int IntKind.i64 0]) ([AObj.rows false 3 [[AVal.int IntKind.i64 a, AVal.int IntKind.i64 m, AVal.fsl b 2 rs none]]]) [decide (Int.toNat (IntKind.wrap IntKind.i64 (IntKind.wrap IntKind.i64 (i - a) - 1)) < List.length rs) = true,
    true = true,
    areKinds [Kind.int IntKind.i64] [List.getD (List.getD rs (Int.toNat (IntKind.wrap IntKind.i64 (IntKind.wrap IntKind.i64 (i - a) - 1))) []) 0 AVal.any] = true,
    decide (0 ≤ IntKind.wrap IntKind.i64 (IntKind.wrap IntKind.i64 (i - a) - 1) ∧ IntKind.wrap IntKind.i64 (IntKind.wrap IntKind.i64 (i - a) - 1) < (↑(List.length rs) : Int)) = true,
    true = true,
    true = true,
    true = true,
    true = true,
    (i == a) = false,
    true = true,
    true = true,
    decide (i > l) = false,
    Owed.use (owed Try.prog 0) 34 [] [AVal.agg [AVal.int IntKind.i64 a, AVal.int IntKind.i64 m, AVal.fsl b 2 rs none]] [AObj.rows false 3 [[AVal.int IntKind.i64 a, AVal.int IntKind.i64 m, AVal.fsl b 2 rs none]]] [AVal.agg [AVal.int IntKind.i64 a, AVal.int IntKind.i64 m, AVal.fsl b 2 rs none]] [] (AVal.int IntKind.i64 l) [],
    true = true,
    true = true,
    decide (i < a) = false,
    true = true,
    true = true]) by kernel_rfl) (allP_of (⟨h1, rfl, h2, h3, rfl, rfl, rfl, rfl, h4, rfl, rfl, h5, ⟨h6, rfl, rfl, rfl⟩, rfl, rfl, h7, rfl, rfl, trivial⟩))).move ([]) (by kernel_rfl) (by kernel_rfl) (by kernel_rfl)


theorem rend_1 (a : Int) (m : Int) (l : Int) (t : Int) (e : Int) (b : Bool) (rs : List (List AVal))
    (h1 : FOk Try.prog 29 [AVal.agg [AVal.int IntKind.i64 a, AVal.int IntKind.i64 m, AVal.fsl b 2 rs none], AVal.int IntKind.i64 l] [] (AVal.tuple [AVal.int IntKind.i64 t, AVal.int IntKind.i64 e]) [])
    (h2 : FOk Try.prog 34 [AVal.agg [AVal.int IntKind.i64 a, AVal.int IntKind.i64 m, AVal.fsl b 2 rs none]] [] (AVal.int IntKind.i64 l) []) :
    FOk Try.prog 35 ([qV a m b rs]) ([]) (AVal.int IntKind.i64 t) ([]) :=
  (evalF_ok followed Try.func35 (by kernel_rfl) (show evalF Try.prog Try.f35 ([qV a m b rs]) ([]) ([Dec.use [] [AVal.agg [AVal.int IntKind.i64 a, AVal.int IntKind.i64 m, AVal.fsl b 2 rs none]] [] (AVal.int IntKind.i64 l) [], Dec.use [] [AVal.agg [AVal.int IntKind.i64 a, AVal.int IntKind.i64 m, AVal.fsl b 2 rs none], AVal.int IntKind.i64 l] [] (AVal.tuple [AVal.int IntKind.i64 t, AVal.int IntKind.i64 e]) []]) = .ok (FRes.mk (AVal.int IntKind.i64 t) ([AObj.rows false 3 [[AVal.int IntKind.i64 a, AVal.int IntKind.i64 m, AVal.fsl b 2 rs none]]]) [true = true,
    true = true,
    true = true,
    true = true,
    true = true,
    true = true,
    true = true,
    true = true,
    true = true,
    true = true,
    true = true,
    true = true,
    Owed.use (owed Try.prog 0) 29 [] [AVal.agg [AVal.int IntKind.i64 a, AVal.int IntKind.i64 m, AVal.fsl b 2 rs none], AVal.int IntKind.i64 l] [AObj.rows false 3 [[AVal.int IntKind.i64 a, AVal.int IntKind.i64 m, AVal.fsl b 2 rs none]]] [AVal.agg [AVal.int IntKind.i64 a, AVal.int IntKind.i64 m, AVal.fsl b 2 rs none], AVal.int IntKind.i64 l] [] (AVal.tuple [AVal.int IntKind.i64 t, AVal.int IntKind.i64 e]) [],
    true = true,
    true = true,
    Owed.use (owed Try.prog 0) 34 [] [AVal.agg [AVal.int IntKind.i64 a, AVal.int IntKind.i64 m, AVal.fsl b 2 rs none]] [AObj.rows false 3 [[AVal.int IntKind.i64 a, AVal.int IntKind.i64 m, AVal.fsl b 2 rs none]]] [AVal.agg [AVal.int IntKind.i64 a, AVal.int IntKind.i64 m, AVal.fsl b 2 rs none]] [] (AVal.int IntKind.i64 l) [],
    true = true,
    true = true,
    true = true,
    true = true,
    true = true,
    true = true,
    true = true,
    true = true,
    true = true,
    true = true]) by kernel_rfl) (allP_of (⟨rfl, rfl, rfl, rfl, rfl, rfl, rfl, rfl, rfl, rfl, rfl, rfl, ⟨h1, rfl, rfl, rfl⟩, rfl, rfl, ⟨h2, rfl, rfl, rfl⟩, rfl, rfl, rfl, rfl, rfl, rfl, rfl, rfl, rfl, rfl, trivial⟩))).move ([]) (by kernel_rfl) (by kernel_rfl) (by kernel_rfl)


theorem rentry_1 (a : Int) (m : Int) (l : Int) (i : Int) (b : Bool) (rs : List (List AVal))
    (h1 : decide (i ≤ a) = true) :
    FOk Try.prog 30 ([qV a m b rs, AVal.int IntKind.i64 i]) ([]) (AVal.tuple [AVal.agg [AVal.int IntKind.i64 0, AVal.str (ByteArray.mk #[])], AVal.int IntKind.i64 60]) ([]) :=
  (evalF_ok followed Try.func30 (by kernel_rfl) (show evalF Try.prog Try.f30 ([qV a m b rs, AVal.int IntKind.i64 i]) ([]) ([Dec.br true]) = .ok (FRes.mk (AVal.tuple [AVal.agg [AVal.int IntKind.i64 0, AVal.str (ByteArray.mk #[])], AVal.int IntKind.i64 60]) ([AObj.rows false 3 [[AVal.int IntKind.i64 a, AVal.int IntKind.i64 m, AVal.fsl b 2 rs none]], AObj.rows true 2 [[AVal.int IntKind.i64 0, AVal.str (ByteArray.mk #[])]]]) [true = true,
    true = true,
    true = true,
    true = true,
    true = true,
    decide (i ≤ a) = true,
    true = true,
    true = true]) by kernel_rfl) (allP_of (⟨rfl, rfl, rfl, rfl, rfl, h1, rfl, rfl, trivial⟩))).move ([]) (by kernel_rfl) (by kernel_rfl) (by kernel_rfl)

theorem rentry_2 (a : Int) (m : Int) (l : Int) (i : Int) (b : Bool) (rs : List (List AVal))
    (h1 : decide (i > l) = true)
    (h2 : FOk Try.prog 34 [AVal.agg [AVal.int IntKind.i64 a, AVal.int IntKind.i64 m, AVal.fsl b 2 rs none]] [] (AVal.int IntKind.i64 l) [])
    (h3 : decide (i ≤ a) = false) :
    FOk Try.prog 30 ([qV a m b rs, AVal.int IntKind.i64 i]) ([]) (AVal.tuple [AVal.agg [AVal.int IntKind.i64 0, AVal.str (ByteArray.mk #[])], AVal.int IntKind.i64 3]) ([]) :=
  (evalF_ok followed Try.func30 (by kernel_rfl) (show evalF Try.prog Try.f30 ([qV a m b rs, AVal.int IntKind.i64 i]) ([]) ([Dec.br false, Dec.use [] [AVal.agg [AVal.int IntKind.i64 a, AVal.int IntKind.i64 m, AVal.fsl b 2 rs none]] [] (AVal.int IntKind.i64 l) [], Dec.br true]) = .ok (FRes.mk (AVal.tuple [AVal.agg [AVal.int IntKind.i64 0, AVal.str (ByteArray.mk #[])], AVal.int IntKind.i64 3]) ([AObj.rows false 3 [[AVal.int IntKind.i64 a, AVal.int IntKind.i64 m, AVal.fsl b 2 rs none]], AObj.rows true 2 [[AVal.int IntKind.i64 0, AVal.str (ByteArray.mk #[])]]]) [true = true,
    true = true,
    true = true,
    true = true,
    true = true,
    decide (i > l) = true,
    Owed.use (owed Try.prog 0) 34 [] [AVal.agg [AVal.int IntKind.i64 a, AVal.int IntKind.i64 m, AVal.fsl b 2 rs none]] [AObj.rows false 3 [[AVal.int IntKind.i64 a, AVal.int IntKind.i64 m, AVal.fsl b 2 rs none]], AObj.rows true 2 [[AVal.int IntKind.i64 0, AVal.str (ByteArray.mk #[])]]] [AVal.agg [AVal.int IntKind.i64 a, AVal.int IntKind.i64 m, AVal.fsl b 2 rs none]] [] (AVal.int IntKind.i64 l) [],
    true = true,
    true = true,
    decide (i ≤ a) = false,
    true = true,
    true = true]) by kernel_rfl) (allP_of (⟨rfl, rfl, rfl, rfl, rfl, h1, ⟨h2, rfl, rfl, rfl⟩, rfl, rfl, h3, rfl, rfl, trivial⟩))).move ([]) (by kernel_rfl) (by kernel_rfl) (by kernel_rfl)

theorem rentry_3 (a : Int) (m : Int) (l : Int) (i : Int) (b : Bool) (rs : List (List AVal))
    (h1 : decide (Int.toNat (IntKind.wrap IntKind.i64 (IntKind.wrap IntKind.i64 (i - a) - 1)) < List.length rs) = true)
    (h2 : areKinds [Kind.int IntKind.i64, Kind.str] [List.getD (List.getD rs (Int.toNat (IntKind.wrap IntKind.i64 (IntKind.wrap IntKind.i64 (i - a) - 1))) []) 0 AVal.any, List.getD (List.getD rs (Int.toNat (IntKind.wrap IntKind.i64 (IntKind.wrap IntKind.i64 (i - a) - 1))) []) 1 AVal.any] = true)
    (h3 : decide (0 ≤ IntKind.wrap IntKind.i64 (IntKind.wrap IntKind.i64 (i - a) - 1) ∧ IntKind.wrap IntKind.i64 (IntKind.wrap IntKind.i64 (i - a) - 1) < (↑(List.length rs) : Int)) = true)
    (h4 : decide (i > l) = false)
    (h5 : FOk Try.prog 34 [AVal.agg [AVal.int IntKind.i64 a, AVal.int IntKind.i64 m, AVal.fsl b 2 rs none]] [] (AVal.int IntKind.i64 l) [])
    (h6 : decide (i ≤ a) = false) :
    FOk Try.prog 30 ([qV a m b rs, AVal.int IntKind.i64 i]) ([]) (AVal.tuple [AVal.agg [AVal.int IntKind.i64 (AVal.toInt (List.getD (List.getD rs (Int.toNat (IntKind.wrap IntKind.i64 (IntKind.wrap IntKind.i64 (i - a) - 1))) []) 0 AVal.any)), AVal.str (AVal.toStr (List.getD (List.getD rs (Int.toNat (IntKind.wrap IntKind.i64 (IntKind.wrap IntKind.i64 (i - a) - 1))) []) 1 AVal.any))], AVal.int IntKind.i64 0]) ([]) :=
  (evalF_ok followed Try.func30 (by kernel_rfl) (show evalF Try.prog Try.f30 ([qV a m b rs, AVal.int IntKind.i64 i]) ([]) ([Dec.br false, Dec.use [] [AVal.agg [AVal.int IntKind.i64 a, AVal.int IntKind.i64 m, AVal.fsl b 2 rs none]] [] (AVal.int IntKind.i64 l) [], Dec.br false]) = .ok (FRes.mk (AVal.tuple [AVal.agg [AVal.int IntKind.i64 (AVal.toInt (List.getD (List.getD rs (Int.toNat (IntKind.wrap IntKind.i64 (IntKind.wrap IntKind.i64 (i - a) - 1))) []) 0 AVal.any)), AVal.str (AVal.toStr (List.getD (List.getD rs (Int.toNat (IntKind.wrap IntKind.i64 (IntKind.wrap IntKind.i64 (i - a) - 1))) []) 1 AVal.any))], AVal.int IntKind.i64 0]) ([AObj.rows false 3 [[AVal.int IntKind.i64 a, AVal.int IntKind.i64 m, AVal.fsl b 2 rs none]], AObj.rows true 2 [[AVal.int IntKind.i64 (AVal.toInt (List.getD (List.getD rs (Int.toNat (IntKind.wrap IntKind.i64 (IntKind.wrap IntKind.i64 (i - a) - 1))) []) 0 AVal.any)), AVal.str (AVal.toStr (List.getD (List.getD rs (Int.toNat (IntKind.wrap IntKind.i64 (IntKind.wrap IntKind.i64 (i - a) - 1))) []) 1 AVal.any))]]]) [true = true,
    true = true,
    true = true,
    true = true,
    true = true,
    decide (Int.toNat (IntKind.wrap IntKind.i64 (IntKind.wrap IntKind.i64 (i - a) - 1)) < List.length rs) = true,
    true = true,
    areKinds [Kind.int IntKind.i64, Kind.str] [List.getD (List.getD rs (Int.toNat (IntKind.wrap IntKind.i64 (IntKind.wrap IntKind.i64 (i - a) - 1))) []) 0 AVal.any, List.getD (List.getD rs (Int.toNat (IntKind.wrap IntKind.i64 (IntKind.wrap IntKind.i64 (i - a) - 1))) []) 1 AVal.any] = true,
    decide (0 ≤ IntKind.wrap IntKind.i64 (IntKind.wrap IntKind.i64 (i - a) - 1) ∧ IntKind.wrap IntKind.i64 (IntKind.wrap IntKind.i64 (i - a) - 1) < (↑(List.length rs) : Int)) = true,
    true = true,
    true = true,
    true = true,
    true = true,
    decide (i > l) = false,
    Owed.use (owed Try.prog 0) 34 [] [AVal.agg [AVal.int IntKind.i64 a, AVal.int IntKind.i64 m, AVal.fsl b 2 rs none]] [AObj.rows false 3 [[AVal.int IntKind.i64 a, AVal.int IntKind.i64 m, AVal.fsl b 2 rs none]], AObj.rows true 2 [[AVal.int IntKind.i64 0, AVal.str (ByteArray.mk #[])]]] [AVal.agg [AVal.int IntKind.i64 a, AVal.int IntKind.i64 m, AVal.fsl b 2 rs none]] [] (AVal.int IntKind.i64 l) [],
    true = true,
    true = true,
    decide (i ≤ a) = false,
    true = true,
    true = true]) by kernel_rfl) (allP_of (⟨rfl, rfl, rfl, rfl, rfl, h1, rfl, h2, h3, rfl, rfl, rfl, rfl, h4, ⟨h5, rfl, rfl, rfl⟩, rfl, rfl, h6, rfl, rfl, trivial⟩))).move ([]) (by kernel_rfl) (by kernel_rfl) (by kernel_rfl)


theorem rapp_1 (a : Int) (m : Int) (l : Int) (l2 : Int) (t : Int) (e : Int) (d : ByteArray) (b : Bool) (rs : List (List AVal))
    (h1 : decide (t > 1099511627776) = true) :
    FOk Try.prog 26 ([qV a m b rs, entV t d]) ([]) (AVal.tuple [AVal.agg [AVal.int IntKind.i64 a, AVal.int IntKind.i64 m, AVal.fsl b 2 rs none], AVal.int IntKind.i64 0, AVal.int IntKind.i64 1]) ([]) :=
  (evalF_ok followed Try.func26 (by kernel_rfl) (show evalF Try.prog Try.f26 ([qV a m b rs, entV t d]) ([]) ([Dec.br true]) = .ok (FRes.mk (AVal.tuple [AVal.agg [AVal.int IntKind.i64 a, AVal.int IntKind.i64 m, AVal.fsl b 2 rs none], AVal.int IntKind.i64 0, AVal.int IntKind.i64 1]) ([AObj.rows false 3 [[AVal.int IntKind.i64 a, AVal.int IntKind.i64 m, AVal.fsl b 2 rs none]], AObj.rows true 2 [[AVal.int IntKind.i64 t, AVal.str d]], AObj.rows false 3 [[AVal.int IntKind.i64 a, AVal.int IntKind.i64 m, AVal.fsl b 2 rs none]]]) [true = true,
    true = true,
    true = true,
    true = true,
    true = true,
    true = true,
    decide (t > 1099511627776) = true,
    true = true,
    true = true,
    true = true]) by kernel_rfl) (allP_of (⟨rfl, rfl, rfl, rfl, rfl, rfl, h1, rfl, rfl, rfl, trivial⟩))).move ([]) (by kernel_rfl) (by kernel_rfl) (by kernel_rfl)

theorem rapp_2 (a : Int) (m : Int) (l : Int) (l2 : Int) (t : Int) (e : Int) (d : ByteArray) (b : Bool) (rs : List (List AVal))
    (h1 : decide ((↑(ByteArray.size d) : Int) > 262144) = true)
    (h2 : decide (t > 1099511627776) = false) :
    FOk Try.prog 26 ([qV a m b rs, entV t d]) ([]) (AVal.tuple [AVal.agg [AVal.int IntKind.i64 a, AVal.int IntKind.i64 m, AVal.fsl b 2 rs none], AVal.int IntKind.i64 0, AVal.int IntKind.i64 1]) ([]) :=
  (evalF_ok followed Try.func26 (by kernel_rfl) (show evalF Try.prog Try.f26 ([qV a m b rs, entV t d]) ([]) ([Dec.br false, Dec.br true]) = .ok (FRes.mk (AVal.tuple [AVal.agg [AVal.int IntKind.i64 a, AVal.int IntKind.i64 m, AVal.fsl b 2 rs none], AVal.int IntKind.i64 0, AVal.int IntKind.i64 1]) ([AObj.rows false 3 [[AVal.int IntKind.i64 a, AVal.int IntKind.i64 m, AVal.fsl b 2 rs none]], AObj.rows true 2 [[AVal.int IntKind.i64 t, AVal.str d]], AObj.rows false 3 [[AVal.int IntKind.i64 a, AVal.int IntKind.i64 m, AVal.fsl b 2 rs none]]]) [true = true,
    true = true,
    true = true,
    true = true,
    true = true,
    true = true,
    decide ((↑(ByteArray.size d) : Int) > 262144) = true,
    true = true,
    true = true,
    true = true,
    decide (t > 1099511627776) = false,
    true = true,
    true = true,
    true = true]) by kernel_rfl) (allP_of (⟨rfl, rfl, rfl, rfl, rfl, rfl, h1, rfl, rfl, rfl, h2, rfl, rfl, rfl, trivial⟩))).move ([]) (by kernel_rfl) (by kernel_rfl) (by kernel_rfl)

theorem rapp_3 (a : Int) (m : Int) (l : Int) (l2 : Int) (t : Int) (e : Int) (d : ByteArray) (b : Bool) (rs : List (List AVal))
    (h1 : decide (t < e) = true)
    (h2 : FOk Try.prog 35 [AVal.agg [AVal.int IntKind.i64 a, AVal.int IntKind.i64 m, AVal.fsl b 2 rs none]] [] (AVal.int IntKind.i64 e) [])
    (h3 : decide ((↑(ByteArray.size d) : Int) > 262144) = false)
    (h4 : decide (t > 1099511627776) = false) :
    FOk Try.prog 26 ([qV a m b rs, entV t d]) ([]) (AVal.tuple [AVal.agg [AVal.int IntKind.i64 a, AVal.int IntKind.i64 m, AVal.fsl b 2 rs none], AVal.int IntKind.i64 0, AVal.int IntKind.i64 50]) ([]) :=
  (evalF_ok followed Try.func26 (by kernel_rfl) (show evalF Try.prog Try.f26 ([qV a m b rs, entV t d]) ([]) ([Dec.br false, Dec.br false, Dec.use [] [AVal.agg [AVal.int IntKind.i64 a, AVal.int IntKind.i64 m, AVal.fsl b 2 rs none]] [] (AVal.int IntKind.i64 e) [], Dec.br true]) = .ok (FRes.mk (AVal.tuple [AVal.agg [AVal.int IntKind.i64 a, AVal.int IntKind.i64 m, AVal.fsl b 2 rs none], AVal.int IntKind.i64 0, AVal.int IntKind.i64 50]) ([AObj.rows false 3 [[AVal.int IntKind.i64 a, AVal.int IntKind.i64 m, AVal.fsl b 2 rs none]], AObj.rows true 2 [[AVal.int IntKind.i64 t, AVal.str d]], AObj.rows false 3 [[AVal.int IntKind.i64 a, AVal.int IntKind.i64 m, AVal.fsl b 2 rs none]]]) [true = true,
    true = true,
    true = true,
    true = true,
    true = true,
    true = true,
    decide (t < e) = true,
    true = true,
    true = true,
    true = true,
    true = true,
    Owed.use (owed Try.prog 0) 35 [] [AVal.agg [AVal.int IntKind.i64 a, AVal.int IntKind.i64 m, AVal.fsl b 2 rs none]] [AObj.rows false 3 [[AVal.int IntKind.i64 a, AVal.int IntKind.i64 m, AVal.fsl b 2 rs none]], AObj.rows true 2 [[AVal.int IntKind.i64 t, AVal.str d]], AObj.rows false 3 [[AVal.int IntKind.i64 0, AVal.int IntKind.i64 0, AVal.fsl true 0 [] (some 0)]]] [AVal.agg [AVal.int IntKind.i64 a, AVal.int IntKind.i64 m, AVal.fsl b 2 rs none]] [] (AVal.int IntKind.i64 e) [],
    true = true,
    true = true,
    true = true,
    true = true,
    true = true,
    true = true,
    true = true,
    true = true,
    true = true,
    true = true,
    true = true,
    true = true,
    true = true,
    true = true,
    decide ((↑(ByteArray.size d) : Int) > 262144) = false,
    true = true,
    true = true,
    true = true,
    decide (t > 1099511627776) = false,
    true = true,
    true = true,
    true = true]) by kernel_rfl) (allP_of (⟨rfl, rfl, rfl, rfl, rfl, rfl, h1, rfl, rfl, rfl, rfl, ⟨h2, rfl, rfl, rfl⟩, rfl, rfl, rfl, rfl, rfl, rfl, rfl, rfl, rfl, rfl, rfl, rfl, rfl, rfl, h3, rfl, rfl, rfl, h4, rfl, rfl, rfl, trivial⟩))).move ([]) (by kernel_rfl) (by kernel_rfl) (by kernel_rfl)

theorem rapp_4 (a : Int) (m : Int) (l : Int) (l2 : Int) (t : Int) (e : Int) (d : ByteArray) (b : Bool) (rs : List (List AVal))
    (h1 : decide (l ≥ 1099511627776) = true)
    (h2 : FOk Try.prog 34 [AVal.agg [AVal.int IntKind.i64 a, AVal.int IntKind.i64 m, AVal.fsl b 2 rs none]] [] (AVal.int IntKind.i64 l) [])
    (h3 : decide (t < e) = false)
    (h4 : FOk Try.prog 35 [AVal.agg [AVal.int IntKind.i64 a, AVal.int IntKind.i64 m, AVal.fsl b 2 rs none]] [] (AVal.int IntKind.i64 e) [])
    (h5 : decide ((↑(ByteArray.size d) : Int) > 262144) = false)
    (h6 : decide (t > 1099511627776) = false) :
    FOk Try.prog 26 ([qV a m b rs, entV t d]) ([]) (AVal.tuple [AVal.agg [AVal.int IntKind.i64 a, AVal.int IntKind.i64 m, AVal.fsl b 2 rs none], AVal.int IntKind.i64 0, AVal.int IntKind.i64 2]) ([]) :=
  (evalF_ok followed Try.func26 (by kernel_rfl) (show evalF Try.prog Try.f26 ([qV a m b rs, entV t d]) ([]) ([Dec.br false, Dec.br false, Dec.use [] [AVal.agg [AVal.int IntKind.i64 a, AVal.int IntKind.i64 m, AVal.fsl b 2 rs none]] [] (AVal.int IntKind.i64 e) [], Dec.br false, Dec.use [] [AVal.agg [AVal.int IntKind.i64 a, AVal.int IntKind.i64 m, AVal.fsl b 2 rs none]] [] (AVal.int IntKind.i64 l) [], Dec.br true]) = .ok (FRes.mk (AVal.tuple [AVal.agg [AVal.int IntKind.i64 a, AVal.int IntKind.i64 m, AVal.fsl b 2 rs none], AVal.int IntKind.i64 0, AVal.int IntKind.i64 2]) ([AObj.rows false 3 [[AVal.int IntKind.i64 a, AVal.int IntKind.i64 m, AVal.fsl b 2 rs none]], AObj.rows true 2 [[AVal.int IntKind.i64 t, AVal.str d]], AObj.rows false 3 [[AVal.int IntKind.i64 a, AVal.int IntKind.i64 m, AVal.fsl b 2 rs none]]]) [true = true,
    true = true,
    true = true,
    true = true,
    true = true,
    true = true,
    decide (l ≥ 1099511627776) = true,
    Owed.use (owed Try.prog 0) 34 [] [AVal.agg [AVal.int IntKind.i64 a, AVal.int IntKind.i64 m, AVal.fsl b 2 rs none]] [AObj.rows false 3 [[AVal.int IntKind.i64 a, AVal.int IntKind.i64 m, AVal.fsl b 2 rs none]], AObj.rows true 2 [[AVal.int IntKind.i64 t, AVal.str d]], AObj.rows false 3 [[AVal.int IntKind.i64 0, AVal.int IntKind.i64 0, AVal.fsl true 0 [] (some 0)]]] [AVal.agg [AVal.int IntKind.i64 a, AVal.int IntKind.i64 m, AVal.fsl b 2 rs none]] [] (AVal.int IntKind.i64 l) [],
    true = true,
    true = true,
    decide (t < e) = false,
    true = true,
    true = true,
    true = true,
    true = true,
    Owed.use (owed Try.prog 0) 35 [] [AVal.agg [AVal.int IntKind.i64 a, AVal.int IntKind.i64 m, AVal.fsl b 2 rs none]] [AObj.rows false 3 [[AVal.int IntKind.i64 a, AVal.int IntKind.i64 m, AVal.fsl b 2 rs none]], AObj.rows true 2 [[AVal.int IntKind.i64 t, AVal.str d]], AObj.rows false 3 [[AVal.int IntKind.i64 0, AVal.int IntKind.i64 0, AVal.fsl true 0 [] (some 0)]]] [AVal.agg [AVal.int IntKind.i64 a, AVal.int IntKind.i64 m, AVal.fsl b 2 rs none]] [] (AVal.int IntKind.i64 e) [],
    true = true,
    true = true,
    true = true,
    true = true,
    true = true,
    true = true,
    true = true,
    true = true,
    true = true,
    true = true,
    true = true,
    true = true,
    true = true,
    true = true,
    decide ((↑(ByteArray.size d) : Int) > 262144) = false,
    true = true,
    true = true,
    true = true,
    decide (t > 1099511627776) = false,
    true = true,
    true = true,
    true = true]) by kernel_rfl) (allP_of (⟨rfl, rfl, rfl, rfl, rfl, rfl, h1, ⟨h2, rfl, rfl, rfl⟩, rfl, rfl, h3, rfl, rfl, rfl, rfl, ⟨h4, rfl, rfl, rfl⟩, rfl, rfl, rfl, rfl, rfl, rfl, rfl, rfl, rfl, rfl, rfl, rfl, rfl, rfl, h5, rfl, rfl, rfl, h6, rfl, rfl, rfl, trivial⟩))).move ([]) (by kernel_rfl) (by kernel_rfl) (by kernel_rfl)

theorem rapp_5 (a : Int) (m : Int) (l : Int) (l2 : Int) (t : Int) (e : Int) (d : ByteArray) (b : Bool) (rs : List (List AVal))
    (h1 : FOk Try.prog 34 [AVal.agg [AVal.int IntKind.i64 a, AVal.int IntKind.i64 m, AVal.slc (List.isEmpty rs && List.isEmpty [[AVal.int IntKind.i64 t, AVal.str d]]) 0 2 0 (List.length rs + List.length [[AVal.int IntKind.i64 t, AVal.str d]]) none]] [AObj.rows true 2 (rs ++ [[AVal.int IntKind.i64 t, AVal.str d]])] (AVal.int IntKind.i64 l2) [AObj.rows true 2 (rs ++ [[AVal.int IntKind.i64 t, AVal.str d]])])
    (h2 : decide (List.length rs = List.length rs) = true)
    (h3 : decide ((List.length rs + List.length [[AVal.int IntKind.i64 t, AVal.str d]]) * 24 ≤ 140737488355328 ∧ List.length rs + List.length [[AVal.int IntKind.i64 t, AVal.str d]] ≤ 9223372036854775807) = true)
    (h4 : decide (List.length rs * 24 ≤ 140737488355328 ∧ List.length rs ≤ 9223372036854775807) = true)
    (h5 : (List.all rs fun r => List.all r oneCell) = true)
    (h6 : decide (l ≥ 1099511627776) = false)
    (h7 : FOk Try.prog 34 [AVal.agg [AVal.int IntKind.i64 a, AVal.int IntKind.i64 m, AVal.fsl b 2 rs none]] [] (AVal.int IntKind.i64 l) [])
    (h8 : decide (t < e) = false)
    (h9 : FOk Try.prog 35 [AVal.agg [AVal.int IntKind.i64 a, AVal.int IntKind.i64 m, AVal.fsl b 2 rs none]] [] (AVal.int IntKind.i64 e) [])
    (h10 : decide ((↑(ByteArray.size d) : Int) > 262144) = false)
    (h11 : decide (t > 1099511627776) = false) :
    FOk Try.prog 26 ([qV a m b rs, entV t d]) ([]) (AVal.tuple [AVal.agg [AVal.int IntKind.i64 a, AVal.int IntKind.i64 m, AVal.slc (List.isEmpty rs && List.isEmpty [[AVal.int IntKind.i64 t, AVal.str d]]) 0 2 0 (List.length rs + List.length [[AVal.int IntKind.i64 t, AVal.str d]]) none], AVal.int IntKind.i64 l2, AVal.int IntKind.i64 0]) ([AObj.rows true 2 (rs ++ [[AVal.int IntKind.i64 t, AVal.str d]])]) :=
  (evalF_ok followed Try.func26 (by kernel_rfl) (show evalF Try.prog Try.f26 ([qV a m b rs, entV t d]) ([]) ([Dec.br false, Dec.br false, Dec.use [] [AVal.agg [AVal.int IntKind.i64 a, AVal.int IntKind.i64 m, AVal.fsl b 2 rs none]] [] (AVal.int IntKind.i64 e) [], Dec.br false, Dec.use [] [AVal.agg [AVal.int IntKind.i64 a, AVal.int IntKind.i64 m, AVal.fsl b 2 rs none]] [] (AVal.int IntKind.i64 l) [], Dec.br false, Dec.use [5] [AVal.agg [AVal.int IntKind.i64 a, AVal.int IntKind.i64 m, AVal.slc (List.isEmpty rs && List.isEmpty [[AVal.int IntKind.i64 t, AVal.str d]]) 0 2 0 (List.length rs + List.length [[AVal.int IntKind.i64 t, AVal.str d]]) none]] [AObj.rows true 2 (rs ++ [[AVal.int IntKind.i64 t, AVal.str d]])] (AVal.int IntKind.i64 l2) [AObj.rows true 2 (rs ++ [[AVal.int IntKind.i64 t, AVal.str d]])]]) = .ok (FRes.mk (AVal.tuple [AVal.agg [AVal.int IntKind.i64 a, AVal.int IntKind.i64 m, AVal.slc (List.isEmpty rs && List.isEmpty [[AVal.int IntKind.i64 t, AVal.str d]]) 5 2 0 (List.length rs + List.length [[AVal.int IntKind.i64 t, AVal.str d]]) none], AVal.int IntKind.i64 l2, AVal.int IntKind.i64 0]) ([AObj.rows false 3 [[AVal.int IntKind.i64 a, AVal.int IntKind.i64 m, AVal.slc (List.isEmpty rs && List.isEmpty [[AVal.int IntKind.i64 t, AVal.str d]]) 5 2 0 (List.length rs + List.length [[AVal.int IntKind.i64 t, AVal.str d]]) none]], AObj.rows true 2 [[AVal.int IntKind.i64 t, AVal.str d]], AObj.rows false 3 [[AVal.int IntKind.i64 a, AVal.int IntKind.i64 m, AVal.slc (List.isEmpty rs && List.isEmpty [[AVal.int IntKind.i64 t, AVal.str d]]) 5 2 0 (List.length rs + List.length [[AVal.int IntKind.i64 t, AVal.str d]]) none]], AObj.dead, AObj.rows true 2 [[AVal.int IntKind.i64 t, AVal.str d]], AObj.rows true 2 (rs ++ [[AVal.int IntKind.i64 t, AVal.str d]])]) [true = true,
    true = true,
    true = true,
    true = true,
    true = true,
    true = true,
    true = true,
    true = true,
    true = true,
    true = true,
    true = true,
    true = true,
    true = true,
    Owed.use (owed Try.prog 0) 34 [5] [AVal.agg [AVal.int IntKind.i64 a, AVal.int IntKind.i64 m, AVal.slc (List.isEmpty rs && List.isEmpty [[AVal.int IntKind.i64 t, AVal.str d]]) 5 2 0 (List.length rs + List.length [[AVal.int IntKind.i64 t, AVal.str d]]) none]] [AObj.rows false 3 [[AVal.int IntKind.i64 a, AVal.int IntKind.i64 m, AVal.slc (List.isEmpty rs && List.isEmpty [[AVal.int IntKind.i64 t, AVal.str d]]) 5 2 0 (List.length rs + List.length [[AVal.int IntKind.i64 t, AVal.str d]]) none]], AObj.rows true 2 [[AVal.int IntKind.i64 t, AVal.str d]], AObj.rows false 3 [[AVal.int IntKind.i64 0, AVal.int IntKind.i64 0, AVal.fsl true 0 [] (some 0)]], AObj.dead, AObj.rows true 2 [[AVal.int IntKind.i64 t, AVal.str d]], AObj.rows true 2 (rs ++ [[AVal.int IntKind.i64 t, AVal.str d]])] [AVal.agg [AVal.int IntKind.i64 a, AVal.int IntKind.i64 m, AVal.slc (List.isEmpty rs && List.isEmpty [[AVal.int IntKind.i64 t, AVal.str d]]) 0 2 0 (List.length rs + List.length [[AVal.int IntKind.i64 t, AVal.str d]]) none]] [AObj.rows true 2 (rs ++ [[AVal.int IntKind.i64 t, AVal.str d]])] (AVal.int IntKind.i64 l2) [AObj.rows true 2 (rs ++ [[AVal.int IntKind.i64 t, AVal.str d]])],
    true = true,
    true = true,
    true = true,
    true = true,
    true = true,
    true = true,
    true = true,
    true = true,
    true = true,
    true = true,
    true = true,
    true = true,
    decide (List.length rs = List.length rs) = true,
    decide ((List.length rs + List.length [[AVal.int IntKind.i64 t, AVal.str d]]) * 24 ≤ 140737488355328 ∧ List.length rs + List.length [[AVal.int IntKind.i64 t, AVal.str d]] ≤ 9223372036854775807) = true,
    true = true,
    true = true,
    true = true,
    true = true,
    true = true,
    decide (List.length rs * 24 ≤ 140737488355328 ∧ List.length rs ≤ 9223372036854775807) = true,
    (List.all rs fun r => List.all r oneCell) = true,
    true = true,
    true = true,
    decide (l ≥ 1099511627776) = false,
    Owed.use (owed Try.prog 0) 34 [] [AVal.agg [AVal.int IntKind.i64 a, AVal.int IntKind.i64 m, AVal.fsl b 2 rs none]] [AObj.rows false 3 [[AVal.int IntKind.i64 a, AVal.int IntKind.i64 m, AVal.fsl b 2 rs none]], AObj.rows true 2 [[AVal.int IntKind.i64 t, AVal.str d]], AObj.rows false 3 [[AVal.int IntKind.i64 0, AVal.int IntKind.i64 0, AVal.fsl true 0 [] (some 0)]]] [AVal.agg [AVal.int IntKind.i64 a, AVal.int IntKind.i64 m, AVal.fsl b 2 rs none]] [] (AVal.int IntKind.i64 l) [],
    true = true,
    true = true,
    decide (t < e) = false,
    true = true,
    true = true,
    true = true,
    true = true,
    Owed.use (owed Try.prog 0) 35 [] [AVal.agg [AVal.int IntKind.i64 a, AVal.int IntKind.i64 m, AVal.fsl b 2 rs none]] [AObj.rows false 3 [[AVal.int IntKind.i64 a, AVal.int IntKind.i64 m, AVal.fsl b 2 rs none]], AObj.rows true 2 [[AVal.int IntKind.i64 t, AVal.str d]], AObj.rows false 3 [[AVal.int IntKind.i64 0, AVal.int IntKind.i64 0, AVal.fsl true 0 [] (some 0)]]] [AVal.agg [AVal.int IntKind.i64 a, AVal.int IntKind.i64 m, AVal.fsl b 2 rs none]] [] (AVal.int IntKind.i64 e) [],
    true = true,
    true = true,
    true = true,
    true = true,
    true = true,
    true = true,
    true = true,
    true = true,
    true = true,
    true = true,
    true = true,
    true = true,
    true = true,
    true = true,
    decide ((↑(ByteArray.size d) : Int) > 262144) = false,
    true = true,
    true = true,
    true = true,
    decide (t > 1099511627776) = false,
    true = true,
    true = true,
    true = true]) by kernel_rfl) (allP_of (⟨rfl, rfl, rfl, rfl, rfl, rfl, rfl, rfl, rfl, rfl, rfl, rfl, rfl, ⟨h1, rfl, rfl, rfl⟩, rfl, rfl, rfl, rfl, rfl, rfl, rfl, rfl, rfl, rfl, rfl, rfl, h2, h3, rfl, rfl, rfl, rfl, rfl, h4, h5, rfl, rfl, h6, ⟨h7, rfl, rfl, rfl⟩, rfl, rfl, h8, rfl, rfl, rfl, rfl, ⟨h9, rfl, rfl, rfl⟩, rfl, rfl, rfl, rfl, rfl, rfl, rfl, rfl, rfl, rfl, rfl, rfl, rfl, rfl, h10, rfl, rfl, rfl, h11, rfl, rfl, rfl, trivial⟩))).move ([5]) (by kernel_rfl) (by kernel_rfl) (by kernel_rfl)


theorem rcut_1 (a : Int) (m : Int) (l : Int) (i : Int) (b : Bool) (rs : List (List AVal))
    (h1 : decide (i ≤ a) = true) :
    FOk Try.prog 27 ([qV a m b rs, AVal.int IntKind.i64 i]) ([]) (AVal.tuple [AVal.agg [AVal.int IntKind.i64 a, AVal.int IntKind.i64 m, AVal.fsl b 2 rs none], AVal.int IntKind.i64 60]) ([]) :=
  (evalF_ok followed Try.func27 (by kernel_rfl) (show evalF Try.prog Try.f27 ([qV a m b rs, AVal.int IntKind.i64 i]) ([]) ([Dec.br true]) = .ok (FRes.mk (AVal.tuple [AVal.agg [AVal.int IntKind.i64 a, AVal.int IntKind.i64 m, AVal.fsl b 2 rs none], AVal.int IntKind.i64 60]) ([AObj.rows false 3 [[AVal.int IntKind.i64 a, AVal.int IntKind.i64 m, AVal.fsl b 2 rs none]], AObj.rows false 3 [[AVal.int IntKind.i64 a, AVal.int IntKind.i64 m, AVal.fsl b 2 rs none]]]) [true = true,
    true = true,
    true = true,
    true = true,
    true = true,
    true = true,
    decide (i ≤ a) = true,
    true = true,
    true = true]) by kernel_rfl) (allP_of (⟨rfl, rfl, rfl, rfl, rfl, rfl, h1, rfl, rfl, trivial⟩))).move ([]) (by kernel_rfl) (by kernel_rfl) (by kernel_rfl)

theorem rcut_2 (a : Int) (m : Int) (l : Int) (i : Int) (b : Bool) (rs : List (List AVal))
    (h1 : decide (i > IntKind.wrap IntKind.i64 (l + 1)) = true)
    (h2 : FOk Try.prog 34 [AVal.agg [AVal.int IntKind.i64 a, AVal.int IntKind.i64 m, AVal.fsl b 2 rs none]] [] (AVal.int IntKind.i64 l) [])
    (h3 : decide (i ≤ a) = false) :
    FOk Try.prog 27 ([qV a m b rs, AVal.int IntKind.i64 i]) ([]) (AVal.tuple [AVal.agg [AVal.int IntKind.i64 a, AVal.int IntKind.i64 m, AVal.fsl b 2 rs none], AVal.int IntKind.i64 3]) ([]) :=
  (evalF_ok followed Try.func27 (by kernel_rfl) (show evalF Try.prog Try.f27 ([qV a m b rs, AVal.int IntKind.i64 i]) ([]) ([Dec.br false, Dec.use [] [AVal.agg [AVal.int IntKind.i64 a, AVal.int IntKind.i64 m, AVal.fsl b 2 rs none]] [] (AVal.int IntKind.i64 l) [], Dec.br true]) = .ok (FRes.mk (AVal.tuple [AVal.agg [AVal.int IntKind.i64 a, AVal.int IntKind.i64 m, AVal.fsl b 2 rs none], AVal.int IntKind.i64 3]) ([AObj.rows false 3 [[AVal.int IntKind.i64 a, AVal.int IntKind.i64 m, AVal.fsl b 2 rs none]], AObj.rows false 3 [[AVal.int IntKind.i64 a, AVal.int IntKind.i64 m, AVal.fsl b 2 rs none]]]) [true = true,
    true = true,
    true = true,
    true = true,
    true = true,
    true = true,
    decide (i > IntKind.wrap IntKind.i64 (l + 1)) = true,
    Owed.use (owed Try.prog 0) 34 [] [AVal.agg [AVal.int IntKind.i64 a, AVal.int IntKind.i64 m, AVal.fsl b 2 rs none]] [AObj.rows false 3 [[AVal.int IntKind.i64 a, AVal.int IntKind.i64 m, AVal.fsl b 2 rs none]], AObj.rows false 3 [[AVal.int IntKind.i64 0, AVal.int IntKind.i64 0, AVal.fsl true 0 [] (some 0)]]] [AVal.agg [AVal.int IntKind.i64 a, AVal.int IntKind.i64 m, AVal.fsl b 2 rs none]] [] (AVal.int IntKind.i64 l) [],
    true = true,
    true = true,
    decide (i ≤ a) = false,
    true = true,
    true = true]) by kernel_rfl) (allP_of (⟨rfl, rfl, rfl, rfl, rfl, rfl, h1, ⟨h2, rfl, rfl, rfl⟩, rfl, rfl, h3, rfl, rfl, trivial⟩))).move ([]) (by kernel_rfl) (by kernel_rfl) (by kernel_rfl)

theorem rcut_3 (a : Int) (m : Int) (l : Int) (i : Int) (b : Bool) (rs : List (List AVal))
    (h1 : decide (0 ≤ (↑0 : Int) ∧ (↑0 : Int) ≤ IntKind.wrap IntKind.i64 (IntKind.wrap IntKind.i64 (i - a) - 1) ∧ IntKind.wrap IntKind.i64 (IntKind.wrap IntKind.i64 (i - a) - 1) ≤ IntKind.wrap IntKind.i64 (IntKind.wrap IntKind.i64 (i - a) - 1) ∧ IntKind.wrap IntKind.i64 (IntKind.wrap IntKind.i64 (i - a) - 1) ≤ (↑(List.length rs) : Int)) = true)
    (h2 : decide (i > IntKind.wrap IntKind.i64 (l + 1)) = false)
    (h3 : FOk Try.prog 34 [AVal.agg [AVal.int IntKind.i64 a, AVal.int IntKind.i64 m, AVal.fsl b 2 rs none]] [] (AVal.int IntKind.i64 l) [])
    (h4 : decide (i ≤ a) = false) :
    FOk Try.prog 27 ([qV a m b rs, AVal.int IntKind.i64 i]) ([]) (AVal.tuple [AVal.agg [AVal.int IntKind.i64 a, AVal.int IntKind.i64 m, AVal.fsl b 2 (AVal.toRows (AVal.fsl b 2 (List.drop 0 (List.take (Int.toNat (IntKind.wrap IntKind.i64 (IntKind.wrap IntKind.i64 (i - a) - 1))) rs)) (some (Int.toNat (IntKind.wrap IntKind.i64 (IntKind.wrap IntKind.i64 (i - a) - 1)) - 0)))) none], AVal.int IntKind.i64 0]) ([]) :=
  (evalF_ok followed Try.func27 (by kernel_rfl) (show evalF Try.prog Try.f27 ([qV a m b rs, AVal.int IntKind.i64 i]) ([]) ([Dec.br false, Dec.use [] [AVal.agg [AVal.int IntKind.i64 a, AVal.int IntKind.i64 m, AVal.fsl b 2 rs none]] [] (AVal.int IntKind.i64 l) [], Dec.br false]) = .ok (FRes.mk (AVal.tuple [AVal.agg [AVal.int IntKind.i64 a, AVal.int IntKind.i64 m, AVal.fsl b 2 (AVal.toRows (AVal.fsl b 2 (List.drop 0 (List.take (Int.toNat (IntKind.wrap IntKind.i64 (IntKind.wrap IntKind.i64 (i - a) - 1))) rs)) (some (Int.toNat (IntKind.wrap IntKind.i64 (IntKind.wrap IntKind.i64 (i - a) - 1)) - 0)))) none], AVal.int IntKind.i64 0]) ([AObj.rows false 3 [[AVal.int IntKind.i64 a, AVal.int IntKind.i64 m, AVal.fsl b 2 (List.drop 0 (List.take (Int.toNat (IntKind.wrap IntKind.i64 (IntKind.wrap IntKind.i64 (i - a) - 1))) rs)) (some (Int.toNat (IntKind.wrap IntKind.i64 (IntKind.wrap IntKind.i64 (i - a) - 1)) - 0))]], AObj.rows false 3 [[AVal.int IntKind.i64 a, AVal.int IntKind.i64 m, AVal.fsl b 2 (List.drop 0 (List.take (Int.toNat (IntKind.wrap IntKind.i64 (IntKind.wrap IntKind.i64 (i - a) - 1))) rs)) (some (Int.toNat (IntKind.wrap IntKind.i64 (IntKind.wrap IntKind.i64 (i - a) - 1)) - 0))]]]) [true = true,
    true = true,
    true = true,
    true = true,
    true = true,
    true = true,
    true = true,
    true = true,
    decide (0 ≤ (↑0 : Int) ∧ (↑0 : Int) ≤ IntKind.wrap IntKind.i64 (IntKind.wrap IntKind.i64 (i - a) - 1) ∧ IntKind.wrap IntKind.i64 (IntKind.wrap IntKind.i64 (i - a) - 1) ≤ IntKind.wrap IntKind.i64 (IntKind.wrap IntKind.i64 (i - a) - 1) ∧ IntKind.wrap IntKind.i64 (IntKind.wrap IntKind.i64 (i - a) - 1) ≤ (↑(List.length rs) : Int)) = true,
    true = true,
    true = true,
    true = true,
    true = true,
    decide (i > IntKind.wrap IntKind.i64 (l + 1)) = false,
    Owed.use (owed Try.prog 0) 34 [] [AVal.agg [AVal.int IntKind.i64 a, AVal.int IntKind.i64 m, AVal.fsl b 2 rs none]] [AObj.rows false 3 [[AVal.int IntKind.i64 a, AVal.int IntKind.i64 m, AVal.fsl b 2 rs none]], AObj.rows false 3 [[AVal.int IntKind.i64 0, AVal.int IntKind.i64 0, AVal.fsl true 0 [] (some 0)]]] [AVal.agg [AVal.int IntKind.i64 a, AVal.int IntKind.i64 m, AVal.fsl b 2 rs none]] [] (AVal.int IntKind.i64 l) [],
    true = true,
    true = true,
    decide (i ≤ a) = false,
    true = true,
    true = true]) by kernel_rfl) (allP_of (⟨rfl, rfl, rfl, rfl, rfl, rfl, rfl, rfl, h1, rfl, rfl, rfl, rfl, h2, ⟨h3, rfl, rfl, rfl⟩, rfl, rfl, h4, rfl, rfl, trivial⟩))).move ([]) (by kernel_rfl) (by kernel_rfl) (by kernel_rfl)


theorem rcmp_1 (a : Int) (m : Int) (i : Int) (t : Int) (e : Int) (b : Bool) (rs : List (List AVal))
    (h1 : (e != 0) = true)
    (h2 : FOk Try.prog 29 [AVal.agg [AVal.int IntKind.i64 a, AVal.int IntKind.i64 m, AVal.fsl b 2 rs none], AVal.int IntKind.i64 i] [] (AVal.tuple [AVal.int IntKind.i64 t, AVal.int IntKind.i64 e]) []) :
    FOk Try.prog 28 ([qV a m b rs, AVal.int IntKind.i64 i]) ([]) (AVal.tuple [AVal.agg [AVal.int IntKind.i64 a, AVal.int IntKind.i64 m, AVal.fsl b 2 rs none], AVal.int IntKind.i64 e]) ([]) :=
  (evalF_ok followed Try.func28 (by kernel_rfl) (show evalF Try.prog Try.f28 ([qV a m b rs, AVal.int IntKind.i64 i]) ([]) ([Dec.use [] [AVal.agg [AVal.int IntKind.i64 a, AVal.int IntKind.i64 m, AVal.fsl b 2 rs none], AVal.int IntKind.i64 i] [] (AVal.tuple [AVal.int IntKind.i64 t, AVal.int IntKind.i64 e]) [], Dec.br true]) = .ok (FRes.mk (AVal.tuple [AVal.agg [AVal.int IntKind.i64 a, AVal.int IntKind.i64 m, AVal.fsl b 2 rs none], AVal.int IntKind.i64 e]) ([AObj.rows false 3 [[AVal.int IntKind.i64 a, AVal.int IntKind.i64 m, AVal.fsl b 2 rs none]], AObj.rows false 3 [[AVal.int IntKind.i64 a, AVal.int IntKind.i64 m, AVal.fsl b 2 rs none]]]) [true = true,
    true = true,
    true = true,
    true = true,
    true = true,
    true = true,
    (e != 0) = true,
    Owed.use (owed Try.prog 0) 29 [] [AVal.agg [AVal.int IntKind.i64 a, AVal.int IntKind.i64 m, AVal.fsl b 2 rs none], AVal.int IntKind.i64 i] [AObj.rows false 3 [[AVal.int IntKind.i64 a, AVal.int IntKind.i64 m, AVal.fsl b 2 rs none]], AObj.rows false 3 [[AVal.int IntKind.i64 0, AVal.int IntKind.i64 0, AVal.fsl true 0 [] (some 0)]]] [AVal.agg [AVal.int IntKind.i64 a, AVal.int IntKind.i64 m, AVal.fsl b 2 rs none], AVal.int IntKind.i64 i] [] (AVal.tuple [AVal.int IntKind.i64 t, AVal.int IntKind.i64 e]) [],
    true = true,
    true = true]) by kernel_rfl) (allP_of (⟨rfl, rfl, rfl, rfl, rfl, rfl, h1, ⟨h2, rfl, rfl, rfl⟩, rfl, rfl, trivial⟩))).move ([]) (by kernel_rfl) (by kernel_rfl) (by kernel_rfl)

theorem rcmp_2 (a : Int) (m : Int) (i : Int) (t : Int) (e : Int) (b : Bool) (rs : List (List AVal))
    (h1 : decide (0 ≤ IntKind.wrap IntKind.i64 (i - a) ∧ IntKind.wrap IntKind.i64 (i - a) ≤ (↑(List.length rs) : Int) ∧ (↑(List.length rs) : Int) ≤ (↑(List.length rs) : Int)) = true)
    (h2 : (e != 0) = false)
    (h3 : FOk Try.prog 29 [AVal.agg [AVal.int IntKind.i64 a, AVal.int IntKind.i64 m, AVal.fsl b 2 rs none], AVal.int IntKind.i64 i] [] (AVal.tuple [AVal.int IntKind.i64 t, AVal.int IntKind.i64 e]) []) :
    FOk Try.prog 28 ([qV a m b rs, AVal.int IntKind.i64 i]) ([]) (AVal.tuple [AVal.agg [AVal.int IntKind.i64 i, AVal.int IntKind.i64 t, AVal.fsl b 2 (AVal.toRows (AVal.fsl b 2 (List.drop (Int.toNat (IntKind.wrap IntKind.i64 (i - a))) (List.take (Int.toNat (↑(List.length rs) : Int)) rs)) none)) none], AVal.int IntKind.i64 0]) ([]) :=
  (evalF_ok followed Try.func28 (by kernel_rfl) (show evalF Try.prog Try.f28 ([qV a m b rs, AVal.int IntKind.i64 i]) ([]) ([Dec.use [] [AVal.agg [AVal.int IntKind.i64 a, AVal.int IntKind.i64 m, AVal.fsl b 2 rs none], AVal.int IntKind.i64 i] [] (AVal.tuple [AVal.int IntKind.i64 t, AVal.int IntKind.i64 e]) [], Dec.br false]) = .ok (FRes.mk (AVal.tuple [AVal.agg [AVal.int IntKind.i64 i, AVal.int IntKind.i64 t, AVal.fsl b 2 (AVal.toRows (AVal.fsl b 2 (List.drop (Int.toNat (IntKind.wrap IntKind.i64 (i - a))) (List.take (Int.toNat (↑(List.length rs) : Int)) rs)) none)) none], AVal.int IntKind.i64 0]) ([AObj.rows false 3 [[AVal.int IntKind.i64 i, AVal.int IntKind.i64 t, AVal.fsl b 2 (List.drop (Int.toNat (IntKind.wrap IntKind.i64 (i - a))) (List.take (Int.toNat (↑(List.length rs) : Int)) rs)) none]], AObj.rows false 3 [[AVal.int IntKind.i64 i, AVal.int IntKind.i64 t, AVal.fsl b 2 (List.drop (Int.toNat (IntKind.wrap IntKind.i64 (i - a))) (List.take (Int.toNat (↑(List.length rs) : Int)) rs)) none]]]) [true = true,
    true = true,
    true = true,
    true = true,
    true = true,
    true = true,
    true = true,
    true = true,
    true = true,
    true = true,
    true = true,
    true = true,
    decide (0 ≤ IntKind.wrap IntKind.i64 (i - a) ∧ IntKind.wrap IntKind.i64 (i - a) ≤ (↑(List.length rs) : Int) ∧ (↑(List.length rs) : Int) ≤ (↑(List.length rs) : Int)) = true,
    true = true,
    true = true,
    true = true,
    true = true,
    (e != 0) = false,
    Owed.use (owed Try.prog 0) 29 [] [AVal.agg [AVal.int IntKind.i64 a, AVal.int IntKind.i64 m, AVal.fsl b 2 rs none], AVal.int IntKind.i64 i] [AObj.rows false 3 [[AVal.int IntKind.i64 a, AVal.int IntKind.i64 m, AVal.fsl b 2 rs none]], AObj.rows false 3 [[AVal.int IntKind.i64 0, AVal.int IntKind.i64 0, AVal.fsl true 0 [] (some 0)]]] [AVal.agg [AVal.int IntKind.i64 a, AVal.int IntKind.i64 m, AVal.fsl b 2 rs none], AVal.int IntKind.i64 i] [] (AVal.tuple [AVal.int IntKind.i64 t, AVal.int IntKind.i64 e]) [],
    true = true,
    true = true]) by kernel_rfl) (allP_of (⟨rfl, rfl, rfl, rfl, rfl, rfl, rfl, rfl, rfl, rfl, rfl, rfl, h1, rfl, rfl, rfl, rfl, h2, ⟨h3, rfl, rfl, rfl⟩, rfl, rfl, trivial⟩))).move ([]) (by kernel_rfl) (by kernel_rfl) (by kernel_rfl)


theorem rnewer_1 (a : Int) (m : Int) (l : Int) (e : Int) (i : Int) (t : Int) (b : Bool) (rs : List (List AVal))
    (h1 : decide (t > e) = true)
    (h2 : FOk Try.prog 35 [AVal.agg [AVal.int IntKind.i64 a, AVal.int IntKind.i64 m, AVal.fsl b 2 rs none]] [] (AVal.int IntKind.i64 e) []) :
    FOk Try.prog 33 ([qV a m b rs, AVal.int IntKind.i64 i, AVal.int IntKind.i64 t]) ([]) (AVal.bool true) ([]) :=
  (evalF_ok followed Try.func33 (by kernel_rfl) (show evalF Try.prog Try.f33 ([qV a m b rs, AVal.int IntKind.i64 i, AVal.int IntKind.i64 t]) ([]) ([Dec.use [] [AVal.agg [AVal.int IntKind.i64 a, AVal.int IntKind.i64 m, AVal.fsl b 2 rs none]] [] (AVal.int IntKind.i64 e) [], Dec.br true]) = .ok (FRes.mk (AVal.bool true) ([AObj.rows false 3 [[AVal.int IntKind.i64 a, AVal.int IntKind.i64 m, AVal.fsl b 2 rs none]]]) [decide (t > e) = true,
    Owed.use (owed Try.prog 0) 35 [] [AVal.agg [AVal.int IntKind.i64 a, AVal.int IntKind.i64 m, AVal.fsl b 2 rs none]] [AObj.rows false 3 [[AVal.int IntKind.i64 a, AVal.int IntKind.i64 m, AVal.fsl b 2 rs none]]] [AVal.agg [AVal.int IntKind.i64 a, AVal.int IntKind.i64 m, AVal.fsl b 2 rs none]] [] (AVal.int IntKind.i64 e) [],
    true = true,
    true = true]) by kernel_rfl) (allP_of (⟨h1, ⟨h2, rfl, rfl, rfl⟩, rfl, rfl, trivial⟩))).move ([]) (by kernel_rfl) (by kernel_rfl) (by kernel_rfl)

theorem rnewer_2 (a : Int) (m : Int) (l : Int) (e : Int) (i : Int) (t : Int) (b : Bool) (rs : List (List AVal))
    (h1 : FOk Try.prog 34 [AVal.agg [AVal.int IntKind.i64 a, AVal.int IntKind.i64 m, AVal.fsl b 2 rs none]] [] (AVal.int IntKind.i64 l) [])
    (h2 : (t == e) = true)
    (h3 : FOk Try.prog 35 [AVal.agg [AVal.int IntKind.i64 a, AVal.int IntKind.i64 m, AVal.fsl b 2 rs none]] [] (AVal.int IntKind.i64 e) [])
    (h4 : decide (t > e) = false) :
    FOk Try.prog 33 ([qV a m b rs, AVal.int IntKind.i64 i, AVal.int IntKind.i64 t]) ([]) (AVal.bool (decide (i ≥ l))) ([]) :=
  (evalF_ok followed Try.func33 (by kernel_rfl) (show evalF Try.prog Try.f33 ([qV a m b rs, AVal.int IntKind.i64 i, AVal.int IntKind.i64 t]) ([]) ([Dec.use [] [AVal.agg [AVal.int IntKind.i64 a, AVal.int IntKind.i64 m, AVal.fsl b 2 rs none]] [] (AVal.int IntKind.i64 e) [], Dec.br false, Dec.use [] [AVal.agg [AVal.int IntKind.i64 a, AVal.int IntKind.i64 m, AVal.fsl b 2 rs none]] [] (AVal.int IntKind.i64 e) [], Dec.br true, Dec.use [] [AVal.agg [AVal.int IntKind.i64 a, AVal.int IntKind.i64 m, AVal.fsl b 2 rs none]] [] (AVal.int IntKind.i64 l) []]) = .ok (FRes.mk (AVal.bool (decide (i ≥ l))) ([AObj.rows false 3 [[AVal.int IntKind.i64 a, AVal.int IntKind.i64 m, AVal.fsl b 2 rs none]]]) [Owed.use (owed Try.prog 0) 34 [] [AVal.agg [AVal.int IntKind.i64 a, AVal.int IntKind.i64 m, AVal.fsl b 2 rs none]] [AObj.rows false 3 [[AVal.int IntKind.i64 a, AVal.int IntKind.i64 m, AVal.fsl b 2 rs none]]] [AVal.agg [AVal.int IntKind.i64 a, AVal.int IntKind.i64 m, AVal.fsl b 2 rs none]] [] (AVal.int IntKind.i64 l) [],
    true = true,
    true = true,
    (t == e) = true,
    Owed.use (owed Try.prog 0) 35 [] [AVal.agg [AVal.int IntKind.i64 a, AVal.int IntKind.i64 m, AVal.fsl b 2 rs none]] [AObj.rows false 3 [[AVal.int IntKind.i64 a, AVal.int IntKind.i64 m, AVal.fsl b 2 rs none]]] [AVal.agg [AVal.int IntKind.i64 a, AVal.int IntKind.i64 m, AVal.fsl b 2 rs none]] [] (AVal.int IntKind.i64 e) [],
    true = true,
    true = true,
    decide (t > e) = false,
    Owed.use (owed Try.prog 0) 35 [] [AVal.agg [AVal.int IntKind.i64 a, AVal.int IntKind.i64 m, AVal.fsl b 2 rs none]] [AObj.rows false 3 [[AVal.int IntKind.i64 a, AVal.int IntKind.i64 m, AVal.fsl b 2 rs none]]] [AVal.agg [AVal.int IntKind.i64 a, AVal.int IntKind.i64 m, AVal.fsl b 2 rs none]] [] (AVal.int IntKind.i64 e) [],
    true = true,
    true = true]) by kernel_rfl) (allP_of (⟨⟨h1, rfl, rfl, rfl⟩, rfl, rfl, h2, ⟨h3, rfl, rfl, rfl⟩, rfl, rfl, h4, ⟨h3, rfl, rfl, rfl⟩, rfl, rfl, trivial⟩))).move ([]) (by kernel_rfl) (by kernel_rfl) (by kernel_rfl)

theorem rnewer_3 (a : Int) (m : Int) (l : Int) (e : Int) (i : Int) (t : Int) (b : Bool) (rs : List (List AVal))
    (h1 : (t == e) = false)
    (h2 : FOk Try.prog 35 [AVal.agg [AVal.int IntKind.i64 a, AVal.int IntKind.i64 m, AVal.fsl b 2 rs none]] [] (AVal.int IntKind.i64 e) [])
    (h3 : decide (t > e) = false) :
    FOk Try.prog 33 ([qV a m b rs, AVal.int IntKind.i64 i, AVal.int IntKind.i64 t]) ([]) (AVal.bool false) ([]) :=
  (evalF_ok followed Try.func33 (by kernel_rfl) (show evalF Try.prog Try.f33 ([qV a m b rs, AVal.int IntKind.i64 i, AVal.int IntKind.i64 t]) ([]) ([Dec.use [] [AVal.agg [AVal.int IntKind.i64 a, AVal.int IntKind.i64 m, AVal.fsl b 2 rs none]] [] (AVal.int IntKind.i64 e) [], Dec.br false, Dec.use [] [AVal.agg [AVal.int IntKind.i64 a, AVal.int IntKind.i64 m, AVal.fsl b 2 rs none]] [] (AVal.int IntKind.i64 e) [], Dec.br false]) = .ok (FRes.mk (AVal.bool false) ([AObj.rows false 3 [[AVal.int IntKind.i64 a, AVal.int IntKind.i64 m, AVal.fsl b 2 rs none]]]) [(t == e) = false,
    Owed.use (owed Try.prog 0) 35 [] [AVal.agg [AVal.int IntKind.i64 a, AVal.int IntKind.i64 m, AVal.fsl b 2 rs none]] [AObj.rows false 3 [[AVal.int IntKind.i64 a, AVal.int IntKind.i64 m, AVal.fsl b 2 rs none]]] [AVal.agg [AVal.int IntKind.i64 a, AVal.int IntKind.i64 m, AVal.fsl b 2 rs none]] [] (AVal.int IntKind.i64 e) [],
    true = true,
    true = true,
    decide (t > e) = false,
    Owed.use (owed Try.prog 0) 35 [] [AVal.agg [AVal.int IntKind.i64 a, AVal.int IntKind.i64 m, AVal.fsl b 2 rs none]] [AObj.rows false 3 [[AVal.int IntKind.i64 a, AVal.int IntKind.i64 m, AVal.fsl b 2 rs none]]] [AVal.agg [AVal.int IntKind.i64 a, AVal.int IntKind.i64 m, AVal.fsl b 2 rs none]] [] (AVal.int IntKind.i64 e) [],
    true = true,
    true = true]) by kernel_rfl) (allP_of (⟨h1, ⟨h2, rfl, rfl, rfl⟩, rfl, rfl, h3, ⟨h2, rfl, rfl, rfl⟩, rfl, rfl, trivial⟩))).move ([]) (by kernel_rfl) (by kernel_rfl) (by kernel_rfl)


theorem rlast2_1 (a : Int) (m : Int) (b : Bool) (n : Nat) (rs : List (List AVal)) :
    FOk Try.prog 34 ([AVal.agg [AVal.int IntKind.i64 a, AVal.int IntKind.i64 m, AVal.slc b 0 2 0 n none]]) ([AObj.rows true 2 rs]) (AVal.int IntKind.i64 (IntKind.wrap IntKind.i64 (a + (↑n : Int)))) ([AObj.rows true 2 rs]) :=
  (evalF_ok followed Try.func34 (by kernel_rfl) (show evalF Try.prog Try.f34 ([AVal.agg [AVal.int IntKind.i64 a, AVal.int IntKind.i64 m, AVal.slc b 0 2 0 n none]]) ([AObj.rows true 2 rs]) ([]) = .ok (FRes.mk (AVal.int IntKind.i64 (IntKind.wrap IntKind.i64 (a + (↑n : Int)))) ([AObj.rows true 2 rs, AObj.rows false 3 [[AVal.int IntKind.i64 a, AVal.int IntKind.i64 m, AVal.slc b 0 2 0 n none]]]) [true = true,
    true = true,
    true = true,
    true = true]) by kernel_rfl) (allP_of (⟨rfl, rfl, rfl, rfl, trivial⟩))).move ([0]) (by kernel_rfl) (by kernel_rfl) (by kernel_rfl)


end Go.L06

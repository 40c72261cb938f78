import Derived.Test.YtpkbeinnflbemaaL06F
set_option linter.unusedVariables false
set_option maxRecDepth 100000
namespace Go.L06
open Go Go.Abs Go.Proofs

/-- a log that nobody made -/
abbrev NL : AState := [.rows false 4 [[.int .i64 0, .int .i64 0, .fsl true 0 [] (some 0), .tt false]]]
theorem ngiven_1 :
    FOk Try.prog 22 ([AVal.nilp]) ([]) (AVal.bool false) ([]) :=
  (evalF_ok followed Try.func22 (by kernel_rfl) (show evalF Try.prog Try.f22 ([AVal.nilp]) ([]) ([Dec.br false]) = .ok (FRes.mk (AVal.bool false) ([]) [false = false]) by kernel_rfl) (allP_of (⟨rfl, trivial⟩))).move ([]) (by kernel_rfl) (by kernel_rfl) (by kernel_rfl)


theorem nterm_1 (i : Int)
    (h1 : FOk Try.prog 22 [AVal.nilp] [] (AVal.bool false) []) :
    FOk Try.prog 11 ([AVal.nilp, AVal.int IntKind.i64 i]) ([]) (AVal.tuple [AVal.int IntKind.i64 0, AVal.int IntKind.i64 1]) ([]) :=
  (evalF_ok followed Try.func11 (by kernel_rfl) (show evalF Try.prog Try.f11 ([AVal.nilp, AVal.int IntKind.i64 i]) ([]) ([Dec.use [] [AVal.nilp] [] (AVal.bool false) [], Dec.br true]) = .ok (FRes.mk (AVal.tuple [AVal.int IntKind.i64 0, AVal.int IntKind.i64 1]) ([]) [true = true,
    Owed.use (owed Try.prog 0) 22 [] [AVal.nilp] [] [AVal.nilp] [] (AVal.bool false) []]) by kernel_rfl) (allP_of (⟨rfl, ⟨h1, rfl, rfl, rfl⟩, trivial⟩))).move ([]) (by kernel_rfl) (by kernel_rfl) (by kernel_rfl)


theorem nentry_1 (i : Int)
    (h1 : FOk Try.prog 22 [AVal.nilp] [] (AVal.bool false) []) :
    FOk Try.prog 16 ([AVal.nilp, AVal.int IntKind.i64 i]) ([]) (AVal.tuple [AVal.agg [AVal.int IntKind.i64 0, AVal.str (ByteArray.mk #[])], AVal.int IntKind.i64 1]) ([]) :=
  (evalF_ok followed Try.func16 (by kernel_rfl) (show evalF Try.prog Try.f16 ([AVal.nilp, AVal.int IntKind.i64 i]) ([]) ([Dec.use [] [AVal.nilp] [] (AVal.bool false) [], Dec.br true]) = .ok (FRes.mk (AVal.tuple [AVal.agg [AVal.int IntKind.i64 0, AVal.str (ByteArray.mk #[])], AVal.int IntKind.i64 1]) ([AObj.rows true 2 [[AVal.int IntKind.i64 0, AVal.str (ByteArray.mk #[])]]]) [true = true,
    true = true,
    true = true,
    true = true,
    true = true,
    true = true,
    Owed.use (owed Try.prog 0) 22 [] [AVal.nilp] [AObj.rows true 2 [[AVal.int IntKind.i64 0, AVal.str (ByteArray.mk #[])]]] [AVal.nilp] [] (AVal.bool false) []]) by kernel_rfl) (allP_of (⟨rfl, rfl, rfl, rfl, rfl, rfl, ⟨h1, rfl, rfl, rfl⟩, trivial⟩))).move ([]) (by kernel_rfl) (by kernel_rfl) (by kernel_rfl)


theorem napp_1 (t : Int) (d : ByteArray)
    (h1 : FOk Try.prog 22 [AVal.nilp] [] (AVal.bool false) []) :
    FOk Try.prog 10 ([AVal.nilp, entV t d]) ([]) (AVal.tuple [AVal.int IntKind.i64 0, AVal.int IntKind.i64 1]) ([]) :=
  (evalF_ok followed Try.func10 (by kernel_rfl) (show evalF Try.prog Try.f10 ([AVal.nilp, entV t d]) ([]) ([Dec.use [] [AVal.nilp] [] (AVal.bool false) [], Dec.br true]) = .ok (FRes.mk (AVal.tuple [AVal.int IntKind.i64 0, AVal.int IntKind.i64 1]) ([AObj.rows true 2 [[AVal.int IntKind.i64 t, AVal.str d]]]) [true = true,
    Owed.use (owed Try.prog 0) 22 [] [AVal.nilp] [AObj.rows true 2 [[AVal.int IntKind.i64 t, AVal.str d]]] [AVal.nilp] [] (AVal.bool false) []]) by kernel_rfl) (allP_of (⟨rfl, ⟨h1, rfl, rfl, rfl⟩, trivial⟩))).move ([]) (by kernel_rfl) (by kernel_rfl) (by kernel_rfl)


theorem nfrm_1 (i : Int)
    (h1 : FOk Try.prog 22 [AVal.nilp] [] (AVal.bool false) []) :
    FOk Try.prog 25 ([AVal.nilp, AVal.int IntKind.i64 i]) ([]) (AVal.tuple [AVal.int IntKind.i64 0, AVal.int IntKind.i64 1]) ([]) :=
  (evalF_ok followed Try.func25 (by kernel_rfl) (show evalF Try.prog Try.f25 ([AVal.nilp, AVal.int IntKind.i64 i]) ([]) ([Dec.use [] [AVal.nilp] [] (AVal.bool false) [], Dec.br true]) = .ok (FRes.mk (AVal.tuple [AVal.int IntKind.i64 0, AVal.int IntKind.i64 1]) ([]) [true = true,
    Owed.use (owed Try.prog 0) 22 [] [AVal.nilp] [] [AVal.nilp] [] (AVal.bool false) []]) by kernel_rfl) (allP_of (⟨rfl, ⟨h1, rfl, rfl, rfl⟩, trivial⟩))).move ([]) (by kernel_rfl) (by kernel_rfl) (by kernel_rfl)


theorem nslice_1 (i : Int) (o : Int)
    (h1 : decide (o < 0) = true) :
    FOk Try.prog 21 ([AVal.nilp, AVal.int IntKind.i64 i, AVal.int IntKind.i64 o]) ([]) (AVal.tuple [AVal.fsl true 2 [] none, AVal.int IntKind.i64 1]) ([]) :=
  (evalF_ok followed Try.func21 (by kernel_rfl) (show evalF Try.prog Try.f21 ([AVal.nilp, AVal.int IntKind.i64 i, AVal.int IntKind.i64 o]) ([]) ([Dec.br true]) = .ok (FRes.mk (AVal.tuple [AVal.fsl true 2 [] none, AVal.int IntKind.i64 1]) ([]) [decide (o < 0) = true]) by kernel_rfl) (allP_of (⟨h1, trivial⟩))).move ([]) (by kernel_rfl) (by kernel_rfl) (by kernel_rfl)

theorem nslice_2 (i : Int) (o : Int)
    (h1 : FOk Try.prog 25 [AVal.nilp, AVal.int IntKind.i64 i] [] (AVal.tuple [AVal.int IntKind.i64 0, AVal.int IntKind.i64 1]) [])
    (h2 : decide (o < 0) = false) :
    FOk Try.prog 21 ([AVal.nilp, AVal.int IntKind.i64 i, AVal.int IntKind.i64 o]) ([]) (AVal.tuple [AVal.fsl true 2 [] none, AVal.int IntKind.i64 1]) ([]) :=
  (evalF_ok followed Try.func21 (by kernel_rfl) (show evalF Try.prog Try.f21 ([AVal.nilp, AVal.int IntKind.i64 i, AVal.int IntKind.i64 o]) ([]) ([Dec.br false, Dec.use [] [AVal.nilp, AVal.int IntKind.i64 i] [] (AVal.tuple [AVal.int IntKind.i64 0, AVal.int IntKind.i64 1]) [], Dec.br true]) = .ok (FRes.mk (AVal.tuple [AVal.fsl true 2 [] none, AVal.int IntKind.i64 1]) ([]) [true = true,
    Owed.use (owed Try.prog 0) 25 [] [AVal.nilp, AVal.int IntKind.i64 i] [] [AVal.nilp, AVal.int IntKind.i64 i] [] (AVal.tuple [AVal.int IntKind.i64 0, AVal.int IntKind.i64 1]) [],
    decide (o < 0) = false]) by kernel_rfl) (allP_of (⟨rfl, ⟨h1, rfl, rfl, rfl⟩, h2, trivial⟩))).move ([]) (by kernel_rfl) (by kernel_rfl) (by kernel_rfl)


theorem ncut_1 (i : Int)
    (h1 : FOk Try.prog 25 [AVal.nilp, AVal.int IntKind.i64 i] [] (AVal.tuple [AVal.int IntKind.i64 0, AVal.int IntKind.i64 1]) []) :
    FOk Try.prog 17 ([AVal.nilp, AVal.int IntKind.i64 i]) ([]) (AVal.int IntKind.i64 1) ([]) :=
  (evalF_ok followed Try.func17 (by kernel_rfl) (show evalF Try.prog Try.f17 ([AVal.nilp, AVal.int IntKind.i64 i]) ([]) ([Dec.use [] [AVal.nilp, AVal.int IntKind.i64 i] [] (AVal.tuple [AVal.int IntKind.i64 0, AVal.int IntKind.i64 1]) [], Dec.br false]) = .ok (FRes.mk (AVal.int IntKind.i64 1) ([]) [false = false,
    Owed.use (owed Try.prog 0) 25 [] [AVal.nilp, AVal.int IntKind.i64 i] [] [AVal.nilp, AVal.int IntKind.i64 i] [] (AVal.tuple [AVal.int IntKind.i64 0, AVal.int IntKind.i64 1]) []]) by kernel_rfl) (allP_of (⟨rfl, ⟨h1, rfl, rfl, rfl⟩, trivial⟩))).move ([]) (by kernel_rfl) (by kernel_rfl) (by kernel_rfl)


theorem ncmp_1 (i : Int)
    (h1 : FOk Try.prog 11 [AVal.nilp, AVal.int IntKind.i64 i] [] (AVal.tuple [AVal.int IntKind.i64 0, AVal.int IntKind.i64 1]) []) :
    FOk Try.prog 14 ([AVal.nilp, AVal.int IntKind.i64 i]) ([]) (AVal.int IntKind.i64 1) ([]) :=
  (evalF_ok followed Try.func14 (by kernel_rfl) (show evalF Try.prog Try.f14 ([AVal.nilp, AVal.int IntKind.i64 i]) ([]) ([Dec.use [] [AVal.nilp, AVal.int IntKind.i64 i] [] (AVal.tuple [AVal.int IntKind.i64 0, AVal.int IntKind.i64 1]) [], Dec.br false]) = .ok (FRes.mk (AVal.int IntKind.i64 1) ([]) [false = false,
    Owed.use (owed Try.prog 0) 11 [] [AVal.nilp, AVal.int IntKind.i64 i] [] [AVal.nilp, AVal.int IntKind.i64 i] [] (AVal.tuple [AVal.int IntKind.i64 0, AVal.int IntKind.i64 1]) []]) by kernel_rfl) (allP_of (⟨rfl, ⟨h1, rfl, rfl, rfl⟩, trivial⟩))).move ([]) (by kernel_rfl) (by kernel_rfl) (by kernel_rfl)


theorem nbase_1
    (h1 : FOk Try.prog 22 [AVal.nilp] [] (AVal.bool false) []) :
    FOk Try.prog 15 ([AVal.nilp]) ([]) (AVal.int IntKind.i64 0) ([]) :=
  (evalF_ok followed Try.func15 (by kernel_rfl) (show evalF Try.prog Try.f15 ([AVal.nilp]) ([]) ([Dec.use [] [AVal.nilp] [] (AVal.bool false) [], Dec.br true]) = .ok (FRes.mk (AVal.int IntKind.i64 0) ([]) [true = true,
    Owed.use (owed Try.prog 0) 22 [] [AVal.nilp] [] [AVal.nilp] [] (AVal.bool false) []]) by kernel_rfl) (allP_of (⟨rfl, ⟨h1, rfl, rfl, rfl⟩, trivial⟩))).move ([]) (by kernel_rfl) (by kernel_rfl) (by kernel_rfl)


theorem nlast_1
    (h1 : FOk Try.prog 22 [AVal.nilp] [] (AVal.bool false) []) :
    FOk Try.prog 12 ([AVal.nilp]) ([]) (AVal.int IntKind.i64 0) ([]) :=
  (evalF_ok followed Try.func12 (by kernel_rfl) (show evalF Try.prog Try.f12 ([AVal.nilp]) ([]) ([Dec.use [] [AVal.nilp] [] (AVal.bool false) [], Dec.br true]) = .ok (FRes.mk (AVal.int IntKind.i64 0) ([]) [true = true,
    Owed.use (owed Try.prog 0) 22 [] [AVal.nilp] [] [AVal.nilp] [] (AVal.bool false) []]) by kernel_rfl) (allP_of (⟨rfl, ⟨h1, rfl, rfl, rfl⟩, trivial⟩))).move ([]) (by kernel_rfl) (by kernel_rfl) (by kernel_rfl)


theorem nnewer_1 (i : Int) (t : Int)
    (h1 : FOk Try.prog 22 [AVal.nilp] [] (AVal.bool false) []) :
    FOk Try.prog 13 ([AVal.nilp, AVal.int IntKind.i64 i, AVal.int IntKind.i64 t]) ([]) (AVal.bool false) ([]) :=
  (evalF_ok followed Try.func13 (by kernel_rfl) (show evalF Try.prog Try.f13 ([AVal.nilp, AVal.int IntKind.i64 i, AVal.int IntKind.i64 t]) ([]) ([Dec.use [] [AVal.nilp] [] (AVal.bool false) [], Dec.br false]) = .ok (FRes.mk (AVal.bool false) ([]) [false = false,
    Owed.use (owed Try.prog 0) 22 [] [AVal.nilp] [] [AVal.nilp] [] (AVal.bool false) []]) by kernel_rfl) (allP_of (⟨rfl, ⟨h1, rfl, rfl, rfl⟩, trivial⟩))).move ([]) (by kernel_rfl) (by kernel_rfl) (by kernel_rfl)


theorem ugiven_1 :
    FOk Try.prog 22 ([logP]) (NL) (AVal.bool false) ([AObj.rows false 4 [[AVal.int IntKind.i64 0, AVal.int IntKind.i64 0, AVal.fsl true 0 [] (some 0), AVal.tt false]]]) :=
  (evalF_ok followed Try.func22 (by kernel_rfl) (show evalF Try.prog Try.f22 ([logP]) (NL) ([Dec.br true]) = .ok (FRes.mk (AVal.bool false) ([AObj.rows false 4 [[AVal.int IntKind.i64 0, AVal.int IntKind.i64 0, AVal.fsl true 0 [] (some 0), AVal.tt false]]]) [true = true,
    true = true,
    true = true]) by kernel_rfl) (allP_of (⟨rfl, rfl, rfl, trivial⟩))).move ([0]) (by kernel_rfl) (by kernel_rfl) (by kernel_rfl)


theorem uterm_1 (i : Int)
    (h1 : FOk Try.prog 22 [AVal.ptr 0 4 0 0] [AObj.rows false 4 [[AVal.int IntKind.i64 0, AVal.int IntKind.i64 0, AVal.fsl true 0 [] (some 0), AVal.tt false]]] (AVal.bool false) [AObj.rows false 4 [[AVal.int IntKind.i64 0, AVal.int IntKind.i64 0, AVal.fsl true 0 [] (some 0), AVal.tt false]]]) :
    FOk Try.prog 11 ([logP, AVal.int IntKind.i64 i]) (NL) (AVal.tuple [AVal.int IntKind.i64 0, AVal.int IntKind.i64 1]) ([AObj.rows false 4 [[AVal.int IntKind.i64 0, AVal.int IntKind.i64 0, AVal.fsl true 0 [] (some 0), AVal.tt false]]]) :=
  (evalF_ok followed Try.func11 (by kernel_rfl) (show evalF Try.prog Try.f11 ([logP, AVal.int IntKind.i64 i]) (NL) ([Dec.use [0] [AVal.ptr 0 4 0 0] [AObj.rows false 4 [[AVal.int IntKind.i64 0, AVal.int IntKind.i64 0, AVal.fsl true 0 [] (some 0), AVal.tt false]]] (AVal.bool false) [AObj.rows false 4 [[AVal.int IntKind.i64 0, AVal.int IntKind.i64 0, AVal.fsl true 0 [] (some 0), AVal.tt false]]], Dec.br true]) = .ok (FRes.mk (AVal.tuple [AVal.int IntKind.i64 0, AVal.int IntKind.i64 1]) ([AObj.rows false 4 [[AVal.int IntKind.i64 0, AVal.int IntKind.i64 0, AVal.fsl true 0 [] (some 0), AVal.tt false]]]) [true = true,
    Owed.use (owed Try.prog 1) 22 [0] [AVal.ptr 0 4 0 0] [AObj.rows false 4 [[AVal.int IntKind.i64 0, AVal.int IntKind.i64 0, AVal.fsl true 0 [] (some 0), AVal.tt false]]] [AVal.ptr 0 4 0 0] [AObj.rows false 4 [[AVal.int IntKind.i64 0, AVal.int IntKind.i64 0, AVal.fsl true 0 [] (some 0), AVal.tt false]]] (AVal.bool false) [AObj.rows false 4 [[AVal.int IntKind.i64 0, AVal.int IntKind.i64 0, AVal.fsl true 0 [] (some 0), AVal.tt false]]]]) by kernel_rfl) (allP_of (⟨rfl, ⟨h1, rfl, rfl, rfl⟩, trivial⟩))).move ([0]) (by kernel_rfl) (by kernel_rfl) (by kernel_rfl)


theorem uentry_1 (i : Int)
    (h1 : FOk Try.prog 22 [AVal.ptr 0 4 0 0] [AObj.rows false 4 [[AVal.int IntKind.i64 0, AVal.int IntKind.i64 0, AVal.fsl true 0 [] (some 0), AVal.tt false]]] (AVal.bool false) [AObj.rows false 4 [[AVal.int IntKind.i64 0, AVal.int IntKind.i64 0, AVal.fsl true 0 [] (some 0), AVal.tt false]]]) :
    FOk Try.prog 16 ([logP, AVal.int IntKind.i64 i]) (NL) (AVal.tuple [AVal.agg [AVal.int IntKind.i64 0, AVal.str (ByteArray.mk #[])], AVal.int IntKind.i64 1]) ([AObj.rows false 4 [[AVal.int IntKind.i64 0, AVal.int IntKind.i64 0, AVal.fsl true 0 [] (some 0), AVal.tt false]]]) :=
  (evalF_ok followed Try.func16 (by kernel_rfl) (show evalF Try.prog Try.f16 ([logP, AVal.int IntKind.i64 i]) (NL) ([Dec.use [0] [AVal.ptr 0 4 0 0] [AObj.rows false 4 [[AVal.int IntKind.i64 0, AVal.int IntKind.i64 0, AVal.fsl true 0 [] (some 0), AVal.tt false]]] (AVal.bool false) [AObj.rows false 4 [[AVal.int IntKind.i64 0, AVal.int IntKind.i64 0, AVal.fsl true 0 [] (some 0), AVal.tt false]]], Dec.br true]) = .ok (FRes.mk (AVal.tuple [AVal.agg [AVal.int IntKind.i64 0, AVal.str (ByteArray.mk #[])], AVal.int IntKind.i64 1]) ([AObj.rows false 4 [[AVal.int IntKind.i64 0, AVal.int IntKind.i64 0, AVal.fsl true 0 [] (some 0), AVal.tt false]], AObj.rows true 2 [[AVal.int IntKind.i64 0, AVal.str (ByteArray.mk #[])]]]) [true = true,
    true = true,
    true = true,
    true = true,
    true = true,
    true = true,
    Owed.use (owed Try.prog 1) 22 [0] [AVal.ptr 0 4 0 0] [AObj.rows false 4 [[AVal.int IntKind.i64 0, AVal.int IntKind.i64 0, AVal.fsl true 0 [] (some 0), AVal.tt false]], AObj.rows true 2 [[AVal.int IntKind.i64 0, AVal.str (ByteArray.mk #[])]]] [AVal.ptr 0 4 0 0] [AObj.rows false 4 [[AVal.int IntKind.i64 0, AVal.int IntKind.i64 0, AVal.fsl true 0 [] (some 0), AVal.tt false]]] (AVal.bool false) [AObj.rows false 4 [[AVal.int IntKind.i64 0, AVal.int IntKind.i64 0, AVal.fsl true 0 [] (some 0), AVal.tt false]]]]) by kernel_rfl) (allP_of (⟨rfl, rfl, rfl, rfl, rfl, rfl, ⟨h1, rfl, rfl, rfl⟩, trivial⟩))).move ([0]) (by kernel_rfl) (by kernel_rfl) (by kernel_rfl)


theorem uapp_1 (t : Int) (d : ByteArray)
    (h1 : FOk Try.prog 22 [AVal.ptr 0 4 0 0] [AObj.rows false 4 [[AVal.int IntKind.i64 0, AVal.int IntKind.i64 0, AVal.fsl true 0 [] (some 0), AVal.tt false]]] (AVal.bool false) [AObj.rows false 4 [[AVal.int IntKind.i64 0, AVal.int IntKind.i64 0, AVal.fsl true 0 [] (some 0), AVal.tt false]]]) :
    FOk Try.prog 10 ([logP, entV t d]) (NL) (AVal.tuple [AVal.int IntKind.i64 0, AVal.int IntKind.i64 1]) ([AObj.rows false 4 [[AVal.int IntKind.i64 0, AVal.int IntKind.i64 0, AVal.fsl true 0 [] (some 0), AVal.tt false]]]) :=
  (evalF_ok followed Try.func10 (by kernel_rfl) (show evalF Try.prog Try.f10 ([logP, entV t d]) (NL) ([Dec.use [0] [AVal.ptr 0 4 0 0] [AObj.rows false 4 [[AVal.int IntKind.i64 0, AVal.int IntKind.i64 0, AVal.fsl true 0 [] (some 0), AVal.tt false]]] (AVal.bool false) [AObj.rows false 4 [[AVal.int IntKind.i64 0, AVal.int IntKind.i64 0, AVal.fsl true 0 [] (some 0), AVal.tt false]]], Dec.br true]) = .ok (FRes.mk (AVal.tuple [AVal.int IntKind.i64 0, AVal.int IntKind.i64 1]) ([AObj.rows false 4 [[AVal.int IntKind.i64 0, AVal.int IntKind.i64 0, AVal.fsl true 0 [] (some 0), AVal.tt false]], AObj.rows true 2 [[AVal.int IntKind.i64 t, AVal.str d]]]) [true = true,
    Owed.use (owed Try.prog 1) 22 [0] [AVal.ptr 0 4 0 0] [AObj.rows false 4 [[AVal.int IntKind.i64 0, AVal.int IntKind.i64 0, AVal.fsl true 0 [] (some 0), AVal.tt false]], AObj.rows true 2 [[AVal.int IntKind.i64 t, AVal.str d]]] [AVal.ptr 0 4 0 0] [AObj.rows false 4 [[AVal.int IntKind.i64 0, AVal.int IntKind.i64 0, AVal.fsl true 0 [] (some 0), AVal.tt false]]] (AVal.bool false) [AObj.rows false 4 [[AVal.int IntKind.i64 0, AVal.int IntKind.i64 0, AVal.fsl true 0 [] (some 0), AVal.tt false]]]]) by kernel_rfl) (allP_of (⟨rfl, ⟨h1, rfl, rfl, rfl⟩, trivial⟩))).move ([0]) (by kernel_rfl) (by kernel_rfl) (by kernel_rfl)


theorem ufrm_1 (i : Int)
    (h1 : FOk Try.prog 22 [AVal.ptr 0 4 0 0] [AObj.rows false 4 [[AVal.int IntKind.i64 0, AVal.int IntKind.i64 0, AVal.fsl true 0 [] (some 0), AVal.tt false]]] (AVal.bool false) [AObj.rows false 4 [[AVal.int IntKind.i64 0, AVal.int IntKind.i64 0, AVal.fsl true 0 [] (some 0), AVal.tt false]]]) :
    FOk Try.prog 25 ([logP, AVal.int IntKind.i64 i]) (NL) (AVal.tuple [AVal.int IntKind.i64 0, AVal.int IntKind.i64 1]) ([AObj.rows false 4 [[AVal.int IntKind.i64 0, AVal.int IntKind.i64 0, AVal.fsl true 0 [] (some 0), AVal.tt false]]]) :=
  (evalF_ok followed Try.func25 (by kernel_rfl) (show evalF Try.prog Try.f25 ([logP, AVal.int IntKind.i64 i]) (NL) ([Dec.use [0] [AVal.ptr 0 4 0 0] [AObj.rows false 4 [[AVal.int IntKind.i64 0, AVal.int IntKind.i64 0, AVal.fsl true 0 [] (some 0), AVal.tt false]]] (AVal.bool false) [AObj.rows false 4 [[AVal.int IntKind.i64 0, AVal.int IntKind.i64 0, AVal.fsl true 0 [] (some 0), AVal.tt false]]], Dec.br true]) = .ok (FRes.mk (AVal.tuple [AVal.int IntKind.i64 0, AVal.int IntKind.i64 1]) ([AObj.rows false 4 [[AVal.int IntKind.i64 0, AVal.int IntKind.i64 0, AVal.fsl true 0 [] (some 0), AVal.tt false]]]) [true = true,
    Owed.use (owed Try.prog 1) 22 [0] [AVal.ptr 0 4 0 0] [AObj.rows false 4 [[AVal.int IntKind.i64 0, AVal.int IntKind.i64 0, AVal.fsl true 0 [] (some 0), AVal.tt false]]] [AVal.ptr 0 4 0 0] [AObj.rows false 4 [[AVal.int IntKind.i64 0, AVal.int IntKind.i64 0, AVal.fsl true 0 [] (some 0), AVal.tt false]]] (AVal.bool false) [AObj.rows false 4 [[AVal.int IntKind.i64 0, AVal.int IntKind.i64 0, AVal.fsl true 0 [] (some 0), AVal.tt false]]]]) by kernel_rfl) (allP_of (⟨rfl, ⟨h1, rfl, rfl, rfl⟩, trivial⟩))).move ([0]) (by kernel_rfl) (by kernel_rfl) (by kernel_rfl)


theorem uslice_1 (i : Int) (o : Int)
    (h1 : decide (o < 0) = true) :
    FOk Try.prog 21 ([logP, AVal.int IntKind.i64 i, AVal.int IntKind.i64 o]) (NL) (AVal.tuple [AVal.fsl true 2 [] none, AVal.int IntKind.i64 1]) ([AObj.rows false 4 [[AVal.int IntKind.i64 0, AVal.int IntKind.i64 0, AVal.fsl true 0 [] (some 0), AVal.tt false]]]) :=
  (evalF_ok followed Try.func21 (by kernel_rfl) (show evalF Try.prog Try.f21 ([logP, AVal.int IntKind.i64 i, AVal.int IntKind.i64 o]) (NL) ([Dec.br true]) = .ok (FRes.mk (AVal.tuple [AVal.fsl true 2 [] none, AVal.int IntKind.i64 1]) ([AObj.rows false 4 [[AVal.int IntKind.i64 0, AVal.int IntKind.i64 0, AVal.fsl true 0 [] (some 0), AVal.tt false]]]) [decide (o < 0) = true]) by kernel_rfl) (allP_of (⟨h1, trivial⟩))).move ([0]) (by kernel_rfl) (by kernel_rfl) (by kernel_rfl)

theorem uslice_2 (i : Int) (o : Int)
    (h1 : FOk Try.prog 25 [AVal.ptr 0 4 0 0, AVal.int IntKind.i64 i] [AObj.rows false 4 [[AVal.int IntKind.i64 0, AVal.int IntKind.i64 0, AVal.fsl true 0 [] (some 0), AVal.tt false]]] (AVal.tuple [AVal.int IntKind.i64 0, AVal.int IntKind.i64 1]) [AObj.rows false 4 [[AVal.int IntKind.i64 0, AVal.int IntKind.i64 0, AVal.fsl true 0 [] (some 0), AVal.tt false]]])
    (h2 : decide (o < 0) = false) :
    FOk Try.prog 21 ([logP, AVal.int IntKind.i64 i, AVal.int IntKind.i64 o]) (NL) (AVal.tuple [AVal.fsl true 2 [] none, AVal.int IntKind.i64 1]) ([AObj.rows false 4 [[AVal.int IntKind.i64 0, AVal.int IntKind.i64 0, AVal.fsl true 0 [] (some 0), AVal.tt false]]]) :=
  (evalF_ok followed Try.func21 (by kernel_rfl) (show evalF Try.prog Try.f21 ([logP, AVal.int IntKind.i64 i, AVal.int IntKind.i64 o]) (NL) ([Dec.br false, Dec.use [0] [AVal.ptr 0 4 0 0, AVal.int IntKind.i64 i] [AObj.rows false 4 [[AVal.int IntKind.i64 0, AVal.int IntKind.i64 0, AVal.fsl true 0 [] (some 0), AVal.tt false]]] (AVal.tuple [AVal.int IntKind.i64 0, AVal.int IntKind.i64 1]) [AObj.rows false 4 [[AVal.int IntKind.i64 0, AVal.int IntKind.i64 0, AVal.fsl true 0 [] (some 0), AVal.tt false]]], Dec.br true]) = .ok (FRes.mk (AVal.tuple [AVal.fsl true 2 [] none, AVal.int IntKind.i64 1]) ([AObj.rows false 4 [[AVal.int IntKind.i64 0, AVal.int IntKind.i64 0, AVal.fsl true 0 [] (some 0), AVal.tt false]]]) [true = true,
    Owed.use (owed Try.prog 1) 25 [0] [AVal.ptr 0 4 0 0, AVal.int IntKind.i64 i] [AObj.rows false 4 [[AVal.int IntKind.i64 0, AVal.int IntKind.i64 0, AVal.fsl true 0 [] (some 0), AVal.tt false]]] [AVal.ptr 0 4 0 0, AVal.int IntKind.i64 i] [AObj.rows false 4 [[AVal.int IntKind.i64 0, AVal.int IntKind.i64 0, AVal.fsl true 0 [] (some 0), AVal.tt false]]] (AVal.tuple [AVal.int IntKind.i64 0, AVal.int IntKind.i64 1]) [AObj.rows false 4 [[AVal.int IntKind.i64 0, AVal.int IntKind.i64 0, AVal.fsl true 0 [] (some 0), AVal.tt false]]],
    decide (o < 0) = false]) by kernel_rfl) (allP_of (⟨rfl, ⟨h1, rfl, rfl, rfl⟩, h2, trivial⟩))).move ([0]) (by kernel_rfl) (by kernel_rfl) (by kernel_rfl)


theorem ucut_1 (i : Int)
    (h1 : FOk Try.prog 25 [AVal.ptr 0 4 0 0, AVal.int IntKind.i64 i] [AObj.rows false 4 [[AVal.int IntKind.i64 0, AVal.int IntKind.i64 0, AVal.fsl true 0 [] (some 0), AVal.tt false]]] (AVal.tuple [AVal.int IntKind.i64 0, AVal.int IntKind.i64 1]) [AObj.rows false 4 [[AVal.int IntKind.i64 0, AVal.int IntKind.i64 0, AVal.fsl true 0 [] (some 0), AVal.tt false]]]) :
    FOk Try.prog 17 ([logP, AVal.int IntKind.i64 i]) (NL) (AVal.int IntKind.i64 1) ([AObj.rows false 4 [[AVal.int IntKind.i64 0, AVal.int IntKind.i64 0, AVal.fsl true 0 [] (some 0), AVal.tt false]]]) :=
  (evalF_ok followed Try.func17 (by kernel_rfl) (show evalF Try.prog Try.f17 ([logP, AVal.int IntKind.i64 i]) (NL) ([Dec.use [0] [AVal.ptr 0 4 0 0, AVal.int IntKind.i64 i] [AObj.rows false 4 [[AVal.int IntKind.i64 0, AVal.int IntKind.i64 0, AVal.fsl true 0 [] (some 0), AVal.tt false]]] (AVal.tuple [AVal.int IntKind.i64 0, AVal.int IntKind.i64 1]) [AObj.rows false 4 [[AVal.int IntKind.i64 0, AVal.int IntKind.i64 0, AVal.fsl true 0 [] (some 0), AVal.tt false]]], Dec.br false]) = .ok (FRes.mk (AVal.int IntKind.i64 1) ([AObj.rows false 4 [[AVal.int IntKind.i64 0, AVal.int IntKind.i64 0, AVal.fsl true 0 [] (some 0), AVal.tt false]]]) [false = false,
    Owed.use (owed Try.prog 1) 25 [0] [AVal.ptr 0 4 0 0, AVal.int IntKind.i64 i] [AObj.rows false 4 [[AVal.int IntKind.i64 0, AVal.int IntKind.i64 0, AVal.fsl true 0 [] (some 0), AVal.tt false]]] [AVal.ptr 0 4 0 0, AVal.int IntKind.i64 i] [AObj.rows false 4 [[AVal.int IntKind.i64 0, AVal.int IntKind.i64 0, AVal.fsl true 0 [] (some 0), AVal.tt false]]] (AVal.tuple [AVal.int IntKind.i64 0, AVal.int IntKind.i64 1]) [AObj.rows false 4 [[AVal.int IntKind.i64 0, AVal.int IntKind.i64 0, AVal.fsl true 0 [] (some 0), AVal.tt false]]]]) by kernel_rfl) (allP_of (⟨rfl, ⟨h1, rfl, rfl, rfl⟩, trivial⟩))).move ([0]) (by kernel_rfl) (by kernel_rfl) (by kernel_rfl)


theorem ucmp_1 (i : Int)
    (h1 : FOk Try.prog 11 [AVal.ptr 0 4 0 0, AVal.int IntKind.i64 i] [AObj.rows false 4 [[AVal.int IntKind.i64 0, AVal.int IntKind.i64 0, AVal.fsl true 0 [] (some 0), AVal.tt false]]] (AVal.tuple [AVal.int IntKind.i64 0, AVal.int IntKind.i64 1]) [AObj.rows false 4 [[AVal.int IntKind.i64 0, AVal.int IntKind.i64 0, AVal.fsl true 0 [] (some 0), AVal.tt false]]]) :
    FOk Try.prog 14 ([logP, AVal.int IntKind.i64 i]) (NL) (AVal.int IntKind.i64 1) ([AObj.rows false 4 [[AVal.int IntKind.i64 0, AVal.int IntKind.i64 0, AVal.fsl true 0 [] (some 0), AVal.tt false]]]) :=
  (evalF_ok followed Try.func14 (by kernel_rfl) (show evalF Try.prog Try.f14 ([logP, AVal.int IntKind.i64 i]) (NL) ([Dec.use [0] [AVal.ptr 0 4 0 0, AVal.int IntKind.i64 i] [AObj.rows false 4 [[AVal.int IntKind.i64 0, AVal.int IntKind.i64 0, AVal.fsl true 0 [] (some 0), AVal.tt false]]] (AVal.tuple [AVal.int IntKind.i64 0, AVal.int IntKind.i64 1]) [AObj.rows false 4 [[AVal.int IntKind.i64 0, AVal.int IntKind.i64 0, AVal.fsl true 0 [] (some 0), AVal.tt false]]], Dec.br false]) = .ok (FRes.mk (AVal.int IntKind.i64 1) ([AObj.rows false 4 [[AVal.int IntKind.i64 0, AVal.int IntKind.i64 0, AVal.fsl true 0 [] (some 0), AVal.tt false]]]) [false = false,
    Owed.use (owed Try.prog 1) 11 [0] [AVal.ptr 0 4 0 0, AVal.int IntKind.i64 i] [AObj.rows false 4 [[AVal.int IntKind.i64 0, AVal.int IntKind.i64 0, AVal.fsl true 0 [] (some 0), AVal.tt false]]] [AVal.ptr 0 4 0 0, AVal.int IntKind.i64 i] [AObj.rows false 4 [[AVal.int IntKind.i64 0, AVal.int IntKind.i64 0, AVal.fsl true 0 [] (some 0), AVal.tt false]]] (AVal.tuple [AVal.int IntKind.i64 0, AVal.int IntKind.i64 1]) [AObj.rows false 4 [[AVal.int IntKind.i64 0, AVal.int IntKind.i64 0, AVal.fsl true 0 [] (some 0), AVal.tt false]]]]) by kernel_rfl) (allP_of (⟨rfl, ⟨h1, rfl, rfl, rfl⟩, trivial⟩))).move ([0]) (by kernel_rfl) (by kernel_rfl) (by kernel_rfl)


theorem ubase_1
    (h1 : FOk Try.prog 22 [AVal.ptr 0 4 0 0] [AObj.rows false 4 [[AVal.int IntKind.i64 0, AVal.int IntKind.i64 0, AVal.fsl true 0 [] (some 0), AVal.tt false]]] (AVal.bool false) [AObj.rows false 4 [[AVal.int IntKind.i64 0, AVal.int IntKind.i64 0, AVal.fsl true 0 [] (some 0), AVal.tt false]]]) :
    FOk Try.prog 15 ([logP]) (NL) (AVal.int IntKind.i64 0) ([AObj.rows false 4 [[AVal.int IntKind.i64 0, AVal.int IntKind.i64 0, AVal.fsl true 0 [] (some 0), AVal.tt false]]]) :=
  (evalF_ok followed Try.func15 (by kernel_rfl) (show evalF Try.prog Try.f15 ([logP]) (NL) ([Dec.use [0] [AVal.ptr 0 4 0 0] [AObj.rows false 4 [[AVal.int IntKind.i64 0, AVal.int IntKind.i64 0, AVal.fsl true 0 [] (some 0), AVal.tt false]]] (AVal.bool false) [AObj.rows false 4 [[AVal.int IntKind.i64 0, AVal.int IntKind.i64 0, AVal.fsl true 0 [] (some 0), AVal.tt false]]], Dec.br true]) = .ok (FRes.mk (AVal.int IntKind.i64 0) ([AObj.rows false 4 [[AVal.int IntKind.i64 0, AVal.int IntKind.i64 0, AVal.fsl true 0 [] (some 0), AVal.tt false]]]) [true = true,
    Owed.use (owed Try.prog 1) 22 [0] [AVal.ptr 0 4 0 0] [AObj.rows false 4 [[AVal.int IntKind.i64 0, AVal.int IntKind.i64 0, AVal.fsl true 0 [] (some 0), AVal.tt false]]] [AVal.ptr 0 4 0 0] [AObj.rows false 4 [[AVal.int IntKind.i64 0, AVal.int IntKind.i64 0, AVal.fsl true 0 [] (some 0), AVal.tt false]]] (AVal.bool false) [AObj.rows false 4 [[AVal.int IntKind.i64 0, AVal.int IntKind.i64 0, AVal.fsl true 0 [] (some 0), AVal.tt false]]]]) by kernel_rfl) (allP_of (⟨rfl, ⟨h1, rfl, rfl, rfl⟩, trivial⟩))).move ([0]) (by kernel_rfl) (by kernel_rfl) (by kernel_rfl)


theorem ulast_1
    (h1 : FOk Try.prog 22 [AVal.ptr 0 4 0 0] [AObj.rows false 4 [[AVal.int IntKind.i64 0, AVal.int IntKind.i64 0, AVal.fsl true 0 [] (some 0), AVal.tt false]]] (AVal.bool false) [AObj.rows false 4 [[AVal.int IntKind.i64 0, AVal.int IntKind.i64 0, AVal.fsl true 0 [] (some 0), AVal.tt false]]]) :
    FOk Try.prog 12 ([logP]) (NL) (AVal.int IntKind.i64 0) ([AObj.rows false 4 [[AVal.int IntKind.i64 0, AVal.int IntKind.i64 0, AVal.fsl true 0 [] (some 0), AVal.tt false]]]) :=
  (evalF_ok followed Try.func12 (by kernel_rfl) (show evalF Try.prog Try.f12 ([logP]) (NL) ([Dec.use [0] [AVal.ptr 0 4 0 0] [AObj.rows false 4 [[AVal.int IntKind.i64 0, AVal.int IntKind.i64 0, AVal.fsl true 0 [] (some 0), AVal.tt false]]] (AVal.bool false) [AObj.rows false 4 [[AVal.int IntKind.i64 0, AVal.int IntKind.i64 0, AVal.fsl true 0 [] (some 0), AVal.tt false]]], Dec.br true]) = .ok (FRes.mk (AVal.int IntKind.i64 0) ([AObj.rows false 4 [[AVal.int IntKind.i64 0, AVal.int IntKind.i64 0, AVal.fsl true 0 [] (some 0), AVal.tt false]]]) [true = true,
    Owed.use (owed Try.prog 1) 22 [0] [AVal.ptr 0 4 0 0] [AObj.rows false 4 [[AVal.int IntKind.i64 0, AVal.int IntKind.i64 0, AVal.fsl true 0 [] (some 0), AVal.tt false]]] [AVal.ptr 0 4 0 0] [AObj.rows false 4 [[AVal.int IntKind.i64 0, AVal.int IntKind.i64 0, AVal.fsl true 0 [] (some 0), AVal.tt false]]] (AVal.bool false) [AObj.rows false 4 [[AVal.int IntKind.i64 0, AVal.int IntKind.i64 0, AVal.fsl true 0 [] (some 0), AVal.tt false]]]]) by kernel_rfl) (allP_of (⟨rfl, ⟨h1, rfl, rfl, rfl⟩, trivial⟩))).move ([0]) (by kernel_rfl) (by kernel_rfl) (by kernel_rfl)


theorem unewer_1 (i : Int) (t : Int)
    (h1 : FOk Try.prog 22 [AVal.ptr 0 4 0 0] [AObj.rows false 4 [[AVal.int IntKind.i64 0, AVal.int IntKind.i64 0, AVal.fsl true 0 [] (some 0), AVal.tt false]]] (AVal.bool false) [AObj.rows false 4 [[AVal.int IntKind.i64 0, AVal.int IntKind.i64 0, AVal.fsl true 0 [] (some 0), AVal.tt false]]]) :
    FOk Try.prog 13 ([logP, AVal.int IntKind.i64 i, AVal.int IntKind.i64 t]) (NL) (AVal.bool false) ([AObj.rows false 4 [[AVal.int IntKind.i64 0, AVal.int IntKind.i64 0, AVal.fsl true 0 [] (some 0), AVal.tt false]]]) :=
  (evalF_ok followed Try.func13 (by kernel_rfl) (show evalF Try.prog Try.f13 ([logP, AVal.int IntKind.i64 i, AVal.int IntKind.i64 t]) (NL) ([Dec.use [0] [AVal.ptr 0 4 0 0] [AObj.rows false 4 [[AVal.int IntKind.i64 0, AVal.int IntKind.i64 0, AVal.fsl true 0 [] (some 0), AVal.tt false]]] (AVal.bool false) [AObj.rows false 4 [[AVal.int IntKind.i64 0, AVal.int IntKind.i64 0, AVal.fsl true 0 [] (some 0), AVal.tt false]]], Dec.br false]) = .ok (FRes.mk (AVal.bool false) ([AObj.rows false 4 [[AVal.int IntKind.i64 0, AVal.int IntKind.i64 0, AVal.fsl true 0 [] (some 0), AVal.tt false]]]) [false = false,
    Owed.use (owed Try.prog 1) 22 [0] [AVal.ptr 0 4 0 0] [AObj.rows false 4 [[AVal.int IntKind.i64 0, AVal.int IntKind.i64 0, AVal.fsl true 0 [] (some 0), AVal.tt false]]] [AVal.ptr 0 4 0 0] [AObj.rows false 4 [[AVal.int IntKind.i64 0, AVal.int IntKind.i64 0, AVal.fsl true 0 [] (some 0), AVal.tt false]]] (AVal.bool false) [AObj.rows false 4 [[AVal.int IntKind.i64 0, AVal.int IntKind.i64 0, AVal.fsl true 0 [] (some 0), AVal.tt false]]]]) by kernel_rfl) (allP_of (⟨rfl, ⟨h1, rfl, rfl, rfl⟩, trivial⟩))).move ([0]) (by kernel_rfl) (by kernel_rfl) (by kernel_rfl)


theorem nobody_1 (k : Int) (t : Int) (d : ByteArray)
    (h1 : FOk Try.prog 9 [] [] (AVal.bool true) [])
    (h2 : FOk Try.prog 13 [AVal.ptr 0 4 0 0, AVal.int IntKind.i64 k, AVal.int IntKind.i64 k] [AObj.rows false 4 [[AVal.int IntKind.i64 0, AVal.int IntKind.i64 0, AVal.fsl true 0 [] (some 0), AVal.tt false]]] (AVal.bool false) [AObj.rows false 4 [[AVal.int IntKind.i64 0, AVal.int IntKind.i64 0, AVal.fsl true 0 [] (some 0), AVal.tt false]]])
    (h3 : FOk Try.prog 12 [AVal.ptr 0 4 0 0] [AObj.rows false 4 [[AVal.int IntKind.i64 0, AVal.int IntKind.i64 0, AVal.fsl true 0 [] (some 0), AVal.tt false]]] (AVal.int IntKind.i64 0) [AObj.rows false 4 [[AVal.int IntKind.i64 0, AVal.int IntKind.i64 0, AVal.fsl true 0 [] (some 0), AVal.tt false]]])
    (h4 : FOk Try.prog 15 [AVal.ptr 0 4 0 0] [AObj.rows false 4 [[AVal.int IntKind.i64 0, AVal.int IntKind.i64 0, AVal.fsl true 0 [] (some 0), AVal.tt false]]] (AVal.int IntKind.i64 0) [AObj.rows false 4 [[AVal.int IntKind.i64 0, AVal.int IntKind.i64 0, AVal.fsl true 0 [] (some 0), AVal.tt false]]])
    (h5 : FOk Try.prog 14 [AVal.ptr 0 4 0 0, AVal.int IntKind.i64 k] [AObj.rows false 4 [[AVal.int IntKind.i64 0, AVal.int IntKind.i64 0, AVal.fsl true 0 [] (some 0), AVal.tt false]]] (AVal.int IntKind.i64 1) [AObj.rows false 4 [[AVal.int IntKind.i64 0, AVal.int IntKind.i64 0, AVal.fsl true 0 [] (some 0), AVal.tt false]]])
    (h6 : FOk Try.prog 17 [AVal.ptr 0 4 0 0, AVal.int IntKind.i64 k] [AObj.rows false 4 [[AVal.int IntKind.i64 0, AVal.int IntKind.i64 0, AVal.fsl true 0 [] (some 0), AVal.tt false]]] (AVal.int IntKind.i64 1) [AObj.rows false 4 [[AVal.int IntKind.i64 0, AVal.int IntKind.i64 0, AVal.fsl true 0 [] (some 0), AVal.tt false]]])
    (h7 : FOk Try.prog 21 [AVal.ptr 0 4 0 0, AVal.int IntKind.i64 k, AVal.int IntKind.i64 k] [AObj.rows false 4 [[AVal.int IntKind.i64 0, AVal.int IntKind.i64 0, AVal.fsl true 0 [] (some 0), AVal.tt false]]] (AVal.tuple [AVal.fsl true 2 [] none, AVal.int IntKind.i64 1]) [AObj.rows false 4 [[AVal.int IntKind.i64 0, AVal.int IntKind.i64 0, AVal.fsl true 0 [] (some 0), AVal.tt false]]])
    (h8 : FOk Try.prog 10 [AVal.ptr 0 4 0 0, AVal.agg [AVal.int IntKind.i64 t, AVal.str d]] [AObj.rows false 4 [[AVal.int IntKind.i64 0, AVal.int IntKind.i64 0, AVal.fsl true 0 [] (some 0), AVal.tt false]]] (AVal.tuple [AVal.int IntKind.i64 0, AVal.int IntKind.i64 1]) [AObj.rows false 4 [[AVal.int IntKind.i64 0, AVal.int IntKind.i64 0, AVal.fsl true 0 [] (some 0), AVal.tt false]]])
    (h9 : FOk Try.prog 16 [AVal.ptr 0 4 0 0, AVal.int IntKind.i64 k] [AObj.rows false 4 [[AVal.int IntKind.i64 0, AVal.int IntKind.i64 0, AVal.fsl true 0 [] (some 0), AVal.tt false]]] (AVal.tuple [AVal.agg [AVal.int IntKind.i64 0, AVal.str (ByteArray.mk #[])], AVal.int IntKind.i64 1]) [AObj.rows false 4 [[AVal.int IntKind.i64 0, AVal.int IntKind.i64 0, AVal.fsl true 0 [] (some 0), AVal.tt false]]])
    (h10 : FOk Try.prog 11 [AVal.ptr 0 4 0 0, AVal.int IntKind.i64 k] [AObj.rows false 4 [[AVal.int IntKind.i64 0, AVal.int IntKind.i64 0, AVal.fsl true 0 [] (some 0), AVal.tt false]]] (AVal.tuple [AVal.int IntKind.i64 0, AVal.int IntKind.i64 1]) [AObj.rows false 4 [[AVal.int IntKind.i64 0, AVal.int IntKind.i64 0, AVal.fsl true 0 [] (some 0), AVal.tt false]]])
    (h11 : FOk Try.prog 13 [AVal.nilp, AVal.int IntKind.i64 k, AVal.int IntKind.i64 k] [] (AVal.bool false) [])
    (h12 : FOk Try.prog 12 [AVal.nilp] [] (AVal.int IntKind.i64 0) [])
    (h13 : FOk Try.prog 15 [AVal.nilp] [] (AVal.int IntKind.i64 0) [])
    (h14 : FOk Try.prog 14 [AVal.nilp, AVal.int IntKind.i64 k] [] (AVal.int IntKind.i64 1) [])
    (h15 : FOk Try.prog 17 [AVal.nilp, AVal.int IntKind.i64 k] [] (AVal.int IntKind.i64 1) [])
    (h16 : FOk Try.prog 21 [AVal.nilp, AVal.int IntKind.i64 k, AVal.int IntKind.i64 k] [] (AVal.tuple [AVal.fsl true 2 [] none, AVal.int IntKind.i64 1]) [])
    (h17 : FOk Try.prog 10 [AVal.nilp, AVal.agg [AVal.int IntKind.i64 t, AVal.str d]] [] (AVal.tuple [AVal.int IntKind.i64 0, AVal.int IntKind.i64 1]) [])
    (h18 : FOk Try.prog 16 [AVal.nilp, AVal.int IntKind.i64 k] [] (AVal.tuple [AVal.agg [AVal.int IntKind.i64 0, AVal.str (ByteArray.mk #[])], AVal.int IntKind.i64 1]) [])
    (h19 : FOk Try.prog 11 [AVal.nilp, AVal.int IntKind.i64 k] [] (AVal.tuple [AVal.int IntKind.i64 0, AVal.int IntKind.i64 1]) []) :
    FOk Try.prog 7 ([AVal.int IntKind.i64 k, entV t d]) ([]) (AVal.bool true) ([]) :=
  (evalF_ok followed Try.func7 (by kernel_rfl) (show evalF Try.prog Try.f7 ([AVal.int IntKind.i64 k, entV t d]) ([]) ([Dec.unroll 3, Dec.br true, Dec.use [] [AVal.nilp, AVal.int IntKind.i64 k] [] (AVal.tuple [AVal.int IntKind.i64 0, AVal.int IntKind.i64 1]) [], Dec.use [] [AVal.nilp, AVal.int IntKind.i64 k] [] (AVal.tuple [entV 0 (ByteArray.mk #[]), AVal.int IntKind.i64 1]) [], Dec.use [] [AVal.nilp, AVal.agg [AVal.int IntKind.i64 t, AVal.str d]] [] (AVal.tuple [AVal.int IntKind.i64 0, AVal.int IntKind.i64 1]) [], Dec.use [] [AVal.nilp, AVal.int IntKind.i64 k, AVal.int IntKind.i64 k] [] (AVal.tuple [AVal.fsl true 2 [] none, AVal.int IntKind.i64 1]) [], Dec.br false, Dec.br false, Dec.br false, Dec.br false, Dec.br false, Dec.br false, Dec.br false, Dec.br false, Dec.use [] [AVal.nilp, AVal.int IntKind.i64 k] [] (AVal.int IntKind.i64 1) [], Dec.br false, Dec.use [] [AVal.nilp, AVal.int IntKind.i64 k] [] (AVal.int IntKind.i64 1) [], Dec.br false, Dec.use [] [AVal.nilp] [] (AVal.int IntKind.i64 0) [], Dec.br false, Dec.use [] [AVal.nilp] [] (AVal.int IntKind.i64 0) [], Dec.br false, Dec.use [] [AVal.nilp, AVal.int IntKind.i64 k, AVal.int IntKind.i64 k] [] (AVal.bool false) [], Dec.br false, Dec.br true, Dec.use [1] [AVal.ptr 0 4 0 0, AVal.int IntKind.i64 k] [AObj.rows false 4 [[AVal.int IntKind.i64 0, AVal.int IntKind.i64 0, AVal.fsl true 0 [] (some 0), AVal.tt false]]] (AVal.tuple [AVal.int IntKind.i64 0, AVal.int IntKind.i64 1]) [AObj.rows false 4 [[AVal.int IntKind.i64 0, AVal.int IntKind.i64 0, AVal.fsl true 0 [] (some 0), AVal.tt false]]], Dec.use [1] [AVal.ptr 0 4 0 0, AVal.int IntKind.i64 k] [AObj.rows false 4 [[AVal.int IntKind.i64 0, AVal.int IntKind.i64 0, AVal.fsl true 0 [] (some 0), AVal.tt false]]] (AVal.tuple [entV 0 (ByteArray.mk #[]), AVal.int IntKind.i64 1]) [AObj.rows false 4 [[AVal.int IntKind.i64 0, AVal.int IntKind.i64 0, AVal.fsl true 0 [] (some 0), AVal.tt false]]], Dec.use [1] [AVal.ptr 0 4 0 0, AVal.agg [AVal.int IntKind.i64 t, AVal.str d]] [AObj.rows false 4 [[AVal.int IntKind.i64 0, AVal.int IntKind.i64 0, AVal.fsl true 0 [] (some 0), AVal.tt false]]] (AVal.tuple [AVal.int IntKind.i64 0, AVal.int IntKind.i64 1]) [AObj.rows false 4 [[AVal.int IntKind.i64 0, AVal.int IntKind.i64 0, AVal.fsl true 0 [] (some 0), AVal.tt false]]], Dec.use [1] [AVal.ptr 0 4 0 0, AVal.int IntKind.i64 k, AVal.int IntKind.i64 k] [AObj.rows false 4 [[AVal.int IntKind.i64 0, AVal.int IntKind.i64 0, AVal.fsl true 0 [] (some 0), AVal.tt false]]] (AVal.tuple [AVal.fsl true 2 [] none, AVal.int IntKind.i64 1]) [AObj.rows false 4 [[AVal.int IntKind.i64 0, AVal.int IntKind.i64 0, AVal.fsl true 0 [] (some 0), AVal.tt false]]], Dec.br false, Dec.br false, Dec.br false, Dec.br false, Dec.br false, Dec.br false, Dec.br false, Dec.br false, Dec.use [1] [AVal.ptr 0 4 0 0, AVal.int IntKind.i64 k] [AObj.rows false 4 [[AVal.int IntKind.i64 0, AVal.int IntKind.i64 0, AVal.fsl true 0 [] (some 0), AVal.tt false]]] (AVal.int IntKind.i64 1) [AObj.rows false 4 [[AVal.int IntKind.i64 0, AVal.int IntKind.i64 0, AVal.fsl true 0 [] (some 0), AVal.tt false]]], Dec.br false, Dec.use [1] [AVal.ptr 0 4 0 0, AVal.int IntKind.i64 k] [AObj.rows false 4 [[AVal.int IntKind.i64 0, AVal.int IntKind.i64 0, AVal.fsl true 0 [] (some 0), AVal.tt false]]] (AVal.int IntKind.i64 1) [AObj.rows false 4 [[AVal.int IntKind.i64 0, AVal.int IntKind.i64 0, AVal.fsl true 0 [] (some 0), AVal.tt false]]], Dec.br false, Dec.use [1] [AVal.ptr 0 4 0 0] [AObj.rows false 4 [[AVal.int IntKind.i64 0, AVal.int IntKind.i64 0, AVal.fsl true 0 [] (some 0), AVal.tt false]]] (AVal.int IntKind.i64 0) [AObj.rows false 4 [[AVal.int IntKind.i64 0, AVal.int IntKind.i64 0, AVal.fsl true 0 [] (some 0), AVal.tt false]]], Dec.br false, Dec.use [1] [AVal.ptr 0 4 0 0] [AObj.rows false 4 [[AVal.int IntKind.i64 0, AVal.int IntKind.i64 0, AVal.fsl true 0 [] (some 0), AVal.tt false]]] (AVal.int IntKind.i64 0) [AObj.rows false 4 [[AVal.int IntKind.i64 0, AVal.int IntKind.i64 0, AVal.fsl true 0 [] (some 0), AVal.tt false]]], Dec.br false, Dec.use [1] [AVal.ptr 0 4 0 0, AVal.int IntKind.i64 k, AVal.int IntKind.i64 k] [AObj.rows false 4 [[AVal.int IntKind.i64 0, AVal.int IntKind.i64 0, AVal.fsl true 0 [] (some 0), AVal.tt false]]] (AVal.bool false) [AObj.rows false 4 [[AVal.int IntKind.i64 0, AVal.int IntKind.i64 0, AVal.fsl true 0 [] (some 0), AVal.tt false]]], Dec.br false, Dec.br false, Dec.use [] [] [] (AVal.bool true) []]) = .ok (FRes.mk (AVal.bool true) ([AObj.rows true 2 [[AVal.int IntKind.i64 t, AVal.str d]], AObj.rows false 4 [[AVal.int IntKind.i64 0, AVal.int IntKind.i64 0, AVal.fsl true 0 [] (some 0), AVal.tt false]], AObj.rows false 1 [[AVal.nilp], [AVal.ptr 1 4 0 0]], AObj.rows true 2 [[AVal.int IntKind.i64 0, AVal.str (ByteArray.mk #[])]], AObj.rows true 2 [[AVal.int IntKind.i64 0, AVal.str (ByteArray.mk #[])]]]) [Owed.use (owed Try.prog 0) 9 [] [] [AObj.rows true 2 [[AVal.int IntKind.i64 t, AVal.str d]], AObj.rows false 4 [[AVal.int IntKind.i64 0, AVal.int IntKind.i64 0, AVal.fsl true 0 [] (some 0), AVal.tt false]], AObj.rows false 1 [[AVal.nilp], [AVal.ptr 1 4 0 0]], AObj.rows true 2 [[AVal.int IntKind.i64 0, AVal.str (ByteArray.mk #[])]], AObj.rows true 2 [[AVal.int IntKind.i64 0, AVal.str (ByteArray.mk #[])]]] [] [] (AVal.bool true) [],
    false = false,
    false = false,
    Owed.use (owed Try.prog 0) 13 [1] [AVal.ptr 1 4 0 0, AVal.int IntKind.i64 k, AVal.int IntKind.i64 k] [AObj.rows true 2 [[AVal.int IntKind.i64 t, AVal.str d]], AObj.rows false 4 [[AVal.int IntKind.i64 0, AVal.int IntKind.i64 0, AVal.fsl true 0 [] (some 0), AVal.tt false]], AObj.rows false 1 [[AVal.nilp], [AVal.ptr 1 4 0 0]], AObj.rows true 2 [[AVal.int IntKind.i64 0, AVal.str (ByteArray.mk #[])]], AObj.rows true 2 [[AVal.int IntKind.i64 0, AVal.str (ByteArray.mk #[])]]] [AVal.ptr 0 4 0 0, AVal.int IntKind.i64 k, AVal.int IntKind.i64 k] [AObj.rows false 4 [[AVal.int IntKind.i64 0, AVal.int IntKind.i64 0, AVal.fsl true 0 [] (some 0), AVal.tt false]]] (AVal.bool false) [AObj.rows false 4 [[AVal.int IntKind.i64 0, AVal.int IntKind.i64 0, AVal.fsl true 0 [] (some 0), AVal.tt false]]],
    true = true,
    true = true,
    true = true,
    false = false,
    Owed.use (owed Try.prog 0) 12 [1] [AVal.ptr 1 4 0 0] [AObj.rows true 2 [[AVal.int IntKind.i64 t, AVal.str d]], AObj.rows false 4 [[AVal.int IntKind.i64 0, AVal.int IntKind.i64 0, AVal.fsl true 0 [] (some 0), AVal.tt false]], AObj.rows false 1 [[AVal.nilp], [AVal.ptr 1 4 0 0]], AObj.rows true 2 [[AVal.int IntKind.i64 0, AVal.str (ByteArray.mk #[])]], AObj.rows true 2 [[AVal.int IntKind.i64 0, AVal.str (ByteArray.mk #[])]]] [AVal.ptr 0 4 0 0] [AObj.rows false 4 [[AVal.int IntKind.i64 0, AVal.int IntKind.i64 0, AVal.fsl true 0 [] (some 0), AVal.tt false]]] (AVal.int IntKind.i64 0) [AObj.rows false 4 [[AVal.int IntKind.i64 0, AVal.int IntKind.i64 0, AVal.fsl true 0 [] (some 0), AVal.tt false]]],
    true = true,
    true = true,
    true = true,
    false = false,
    Owed.use (owed Try.prog 0) 15 [1] [AVal.ptr 1 4 0 0] [AObj.rows true 2 [[AVal.int IntKind.i64 t, AVal.str d]], AObj.rows false 4 [[AVal.int IntKind.i64 0, AVal.int IntKind.i64 0, AVal.fsl true 0 [] (some 0), AVal.tt false]], AObj.rows false 1 [[AVal.nilp], [AVal.ptr 1 4 0 0]], AObj.rows true 2 [[AVal.int IntKind.i64 0, AVal.str (ByteArray.mk #[])]], AObj.rows true 2 [[AVal.int IntKind.i64 0, AVal.str (ByteArray.mk #[])]]] [AVal.ptr 0 4 0 0] [AObj.rows false 4 [[AVal.int IntKind.i64 0, AVal.int IntKind.i64 0, AVal.fsl true 0 [] (some 0), AVal.tt false]]] (AVal.int IntKind.i64 0) [AObj.rows false 4 [[AVal.int IntKind.i64 0, AVal.int IntKind.i64 0, AVal.fsl true 0 [] (some 0), AVal.tt false]]],
    true = true,
    true = true,
    true = true,
    false = false,
    Owed.use (owed Try.prog 0) 14 [1] [AVal.ptr 1 4 0 0, AVal.int IntKind.i64 k] [AObj.rows true 2 [[AVal.int IntKind.i64 t, AVal.str d]], AObj.rows false 4 [[AVal.int IntKind.i64 0, AVal.int IntKind.i64 0, AVal.fsl true 0 [] (some 0), AVal.tt false]], AObj.rows false 1 [[AVal.nilp], [AVal.ptr 1 4 0 0]], AObj.rows true 2 [[AVal.int IntKind.i64 0, AVal.str (ByteArray.mk #[])]], AObj.rows true 2 [[AVal.int IntKind.i64 0, AVal.str (ByteArray.mk #[])]]] [AVal.ptr 0 4 0 0, AVal.int IntKind.i64 k] [AObj.rows false 4 [[AVal.int IntKind.i64 0, AVal.int IntKind.i64 0, AVal.fsl true 0 [] (some 0), AVal.tt false]]] (AVal.int IntKind.i64 1) [AObj.rows false 4 [[AVal.int IntKind.i64 0, AVal.int IntKind.i64 0, AVal.fsl true 0 [] (some 0), AVal.tt false]]],
    true = true,
    true = true,
    true = true,
    false = false,
    Owed.use (owed Try.prog 0) 17 [1] [AVal.ptr 1 4 0 0, AVal.int IntKind.i64 k] [AObj.rows true 2 [[AVal.int IntKind.i64 t, AVal.str d]], AObj.rows false 4 [[AVal.int IntKind.i64 0, AVal.int IntKind.i64 0, AVal.fsl true 0 [] (some 0), AVal.tt false]], AObj.rows false 1 [[AVal.nilp], [AVal.ptr 1 4 0 0]], AObj.rows true 2 [[AVal.int IntKind.i64 0, AVal.str (ByteArray.mk #[])]], AObj.rows true 2 [[AVal.int IntKind.i64 0, AVal.str (ByteArray.mk #[])]]] [AVal.ptr 0 4 0 0, AVal.int IntKind.i64 k] [AObj.rows false 4 [[AVal.int IntKind.i64 0, AVal.int IntKind.i64 0, AVal.fsl true 0 [] (some 0), AVal.tt false]]] (AVal.int IntKind.i64 1) [AObj.rows false 4 [[AVal.int IntKind.i64 0, AVal.int IntKind.i64 0, AVal.fsl true 0 [] (some 0), AVal.tt false]]],
    true = true,
    true = true,
    true = true,
    false = false,
    false = false,
    false = false,
    false = false,
    false = false,
    false = false,
    true = true,
    true = true,
    true = true,
    false = false,
    false = false,
    Owed.use (owed Try.prog 0) 21 [1] [AVal.ptr 1 4 0 0, AVal.int IntKind.i64 k, AVal.int IntKind.i64 k] [AObj.rows true 2 [[AVal.int IntKind.i64 t, AVal.str d]], AObj.rows false 4 [[AVal.int IntKind.i64 0, AVal.int IntKind.i64 0, AVal.fsl true 0 [] (some 0), AVal.tt false]], AObj.rows false 1 [[AVal.nilp], [AVal.ptr 1 4 0 0]], AObj.rows true 2 [[AVal.int IntKind.i64 0, AVal.str (ByteArray.mk #[])]], AObj.rows true 2 [[AVal.int IntKind.i64 0, AVal.str (ByteArray.mk #[])]]] [AVal.ptr 0 4 0 0, AVal.int IntKind.i64 k, AVal.int IntKind.i64 k] [AObj.rows false 4 [[AVal.int IntKind.i64 0, AVal.int IntKind.i64 0, AVal.fsl true 0 [] (some 0), AVal.tt false]]] (AVal.tuple [AVal.fsl true 2 [] none, AVal.int IntKind.i64 1]) [AObj.rows false 4 [[AVal.int IntKind.i64 0, AVal.int IntKind.i64 0, AVal.fsl true 0 [] (some 0), AVal.tt false]]],
    true = true,
    true = true,
    true = true,
    true = true,
    true = true,
    true = true,
    true = true,
    true = true,
    true = true,
    true = true,
    Owed.use (owed Try.prog 0) 10 [1] [AVal.ptr 1 4 0 0, AVal.agg [AVal.int IntKind.i64 t, AVal.str d]] [AObj.rows true 2 [[AVal.int IntKind.i64 t, AVal.str d]], AObj.rows false 4 [[AVal.int IntKind.i64 0, AVal.int IntKind.i64 0, AVal.fsl true 0 [] (some 0), AVal.tt false]], AObj.rows false 1 [[AVal.nilp], [AVal.ptr 1 4 0 0]], AObj.rows true 2 [[AVal.int IntKind.i64 0, AVal.str (ByteArray.mk #[])]], AObj.rows true 2 [[AVal.int IntKind.i64 0, AVal.str (ByteArray.mk #[])]]] [AVal.ptr 0 4 0 0, AVal.agg [AVal.int IntKind.i64 t, AVal.str d]] [AObj.rows false 4 [[AVal.int IntKind.i64 0, AVal.int IntKind.i64 0, AVal.fsl true 0 [] (some 0), AVal.tt false]]] (AVal.tuple [AVal.int IntKind.i64 0, AVal.int IntKind.i64 1]) [AObj.rows false 4 [[AVal.int IntKind.i64 0, AVal.int IntKind.i64 0, AVal.fsl true 0 [] (some 0), AVal.tt false]]],
    true = true,
    true = true,
    true = true,
    true = true,
    true = true,
    true = true,
    true = true,
    true = true,
    true = true,
    true = true,
    true = true,
    true = true,
    true = true,
    true = true,
    Owed.use (owed Try.prog 0) 16 [1] [AVal.ptr 1 4 0 0, AVal.int IntKind.i64 k] [AObj.rows true 2 [[AVal.int IntKind.i64 t, AVal.str d]], AObj.rows false 4 [[AVal.int IntKind.i64 0, AVal.int IntKind.i64 0, AVal.fsl true 0 [] (some 0), AVal.tt false]], AObj.rows false 1 [[AVal.nilp], [AVal.ptr 1 4 0 0]], AObj.rows true 2 [[AVal.int IntKind.i64 0, AVal.str (ByteArray.mk #[])]]] [AVal.ptr 0 4 0 0, AVal.int IntKind.i64 k] [AObj.rows false 4 [[AVal.int IntKind.i64 0, AVal.int IntKind.i64 0, AVal.fsl true 0 [] (some 0), AVal.tt false]]] (AVal.tuple [AVal.agg [AVal.int IntKind.i64 0, AVal.str (ByteArray.mk #[])], AVal.int IntKind.i64 1]) [AObj.rows false 4 [[AVal.int IntKind.i64 0, AVal.int IntKind.i64 0, AVal.fsl true 0 [] (some 0), AVal.tt false]]],
    true = true,
    true = true,
    true = true,
    Owed.use (owed Try.prog 0) 11 [1] [AVal.ptr 1 4 0 0, AVal.int IntKind.i64 k] [AObj.rows true 2 [[AVal.int IntKind.i64 t, AVal.str d]], AObj.rows false 4 [[AVal.int IntKind.i64 0, AVal.int IntKind.i64 0, AVal.fsl true 0 [] (some 0), AVal.tt false]], AObj.rows false 1 [[AVal.nilp], [AVal.ptr 1 4 0 0]], AObj.rows true 2 [[AVal.int IntKind.i64 0, AVal.str (ByteArray.mk #[])]]] [AVal.ptr 0 4 0 0, AVal.int IntKind.i64 k] [AObj.rows false 4 [[AVal.int IntKind.i64 0, AVal.int IntKind.i64 0, AVal.fsl true 0 [] (some 0), AVal.tt false]]] (AVal.tuple [AVal.int IntKind.i64 0, AVal.int IntKind.i64 1]) [AObj.rows false 4 [[AVal.int IntKind.i64 0, AVal.int IntKind.i64 0, AVal.fsl true 0 [] (some 0), AVal.tt false]]],
    true = true,
    true = true,
    true = true,
    true = true,
    false = false,
    Owed.use (owed Try.prog 0) 13 [] [AVal.nilp, AVal.int IntKind.i64 k, AVal.int IntKind.i64 k] [AObj.rows true 2 [[AVal.int IntKind.i64 t, AVal.str d]], AObj.rows false 4 [[AVal.int IntKind.i64 0, AVal.int IntKind.i64 0, AVal.fsl true 0 [] (some 0), AVal.tt false]], AObj.rows false 1 [[AVal.nilp], [AVal.ptr 1 4 0 0]], AObj.rows true 2 [[AVal.int IntKind.i64 0, AVal.str (ByteArray.mk #[])]]] [AVal.nilp, AVal.int IntKind.i64 k, AVal.int IntKind.i64 k] [] (AVal.bool false) [],
    true = true,
    true = true,
    true = true,
    false = false,
    Owed.use (owed Try.prog 0) 12 [] [AVal.nilp] [AObj.rows true 2 [[AVal.int IntKind.i64 t, AVal.str d]], AObj.rows false 4 [[AVal.int IntKind.i64 0, AVal.int IntKind.i64 0, AVal.fsl true 0 [] (some 0), AVal.tt false]], AObj.rows false 1 [[AVal.nilp], [AVal.ptr 1 4 0 0]], AObj.rows true 2 [[AVal.int IntKind.i64 0, AVal.str (ByteArray.mk #[])]]] [AVal.nilp] [] (AVal.int IntKind.i64 0) [],
    true = true,
    true = true,
    true = true,
    false = false,
    Owed.use (owed Try.prog 0) 15 [] [AVal.nilp] [AObj.rows true 2 [[AVal.int IntKind.i64 t, AVal.str d]], AObj.rows false 4 [[AVal.int IntKind.i64 0, AVal.int IntKind.i64 0, AVal.fsl true 0 [] (some 0), AVal.tt false]], AObj.rows false 1 [[AVal.nilp], [AVal.ptr 1 4 0 0]], AObj.rows true 2 [[AVal.int IntKind.i64 0, AVal.str (ByteArray.mk #[])]]] [AVal.nilp] [] (AVal.int IntKind.i64 0) [],
    true = true,
    true = true,
    true = true,
    false = false,
    Owed.use (owed Try.prog 0) 14 [] [AVal.nilp, AVal.int IntKind.i64 k] [AObj.rows true 2 [[AVal.int IntKind.i64 t, AVal.str d]], AObj.rows false 4 [[AVal.int IntKind.i64 0, AVal.int IntKind.i64 0, AVal.fsl true 0 [] (some 0), AVal.tt false]], AObj.rows false 1 [[AVal.nilp], [AVal.ptr 1 4 0 0]], AObj.rows true 2 [[AVal.int IntKind.i64 0, AVal.str (ByteArray.mk #[])]]] [AVal.nilp, AVal.int IntKind.i64 k] [] (AVal.int IntKind.i64 1) [],
    true = true,
    true = true,
    true = true,
    false = false,
    Owed.use (owed Try.prog 0) 17 [] [AVal.nilp, AVal.int IntKind.i64 k] [AObj.rows true 2 [[AVal.int IntKind.i64 t, AVal.str d]], AObj.rows false 4 [[AVal.int IntKind.i64 0, AVal.int IntKind.i64 0, AVal.fsl true 0 [] (some 0), AVal.tt false]], AObj.rows false 1 [[AVal.nilp], [AVal.ptr 1 4 0 0]], AObj.rows true 2 [[AVal.int IntKind.i64 0, AVal.str (ByteArray.mk #[])]]] [AVal.nilp, AVal.int IntKind.i64 k] [] (AVal.int IntKind.i64 1) [],
    true = true,
    true = true,
    true = true,
    false = false,
    false = false,
    false = false,
    false = false,
    false = false,
    false = false,
    true = true,
    true = true,
    true = true,
    false = false,
    false = false,
    Owed.use (owed Try.prog 0) 21 [] [AVal.nilp, AVal.int IntKind.i64 k, AVal.int IntKind.i64 k] [AObj.rows true 2 [[AVal.int IntKind.i64 t, AVal.str d]], AObj.rows false 4 [[AVal.int IntKind.i64 0, AVal.int IntKind.i64 0, AVal.fsl true 0 [] (some 0), AVal.tt false]], AObj.rows false 1 [[AVal.nilp], [AVal.ptr 1 4 0 0]], AObj.rows true 2 [[AVal.int IntKind.i64 0, AVal.str (ByteArray.mk #[])]]] [AVal.nilp, AVal.int IntKind.i64 k, AVal.int IntKind.i64 k] [] (AVal.tuple [AVal.fsl true 2 [] none, AVal.int IntKind.i64 1]) [],
    true = true,
    true = true,
    true = true,
    true = true,
    true = true,
    true = true,
    true = true,
    true = true,
    true = true,
    true = true,
    Owed.use (owed Try.prog 0) 10 [] [AVal.nilp, AVal.agg [AVal.int IntKind.i64 t, AVal.str d]] [AObj.rows true 2 [[AVal.int IntKind.i64 t, AVal.str d]], AObj.rows false 4 [[AVal.int IntKind.i64 0, AVal.int IntKind.i64 0, AVal.fsl true 0 [] (some 0), AVal.tt false]], AObj.rows false 1 [[AVal.nilp], [AVal.ptr 1 4 0 0]], AObj.rows true 2 [[AVal.int IntKind.i64 0, AVal.str (ByteArray.mk #[])]]] [AVal.nilp, AVal.agg [AVal.int IntKind.i64 t, AVal.str d]] [] (AVal.tuple [AVal.int IntKind.i64 0, AVal.int IntKind.i64 1]) [],
    true = true,
    true = true,
    true = true,
    true = true,
    true = true,
    true = true,
    true = true,
    true = true,
    true = true,
    true = true,
    true = true,
    true = true,
    true = true,
    true = true,
    Owed.use (owed Try.prog 0) 16 [] [AVal.nilp, AVal.int IntKind.i64 k] [AObj.rows true 2 [[AVal.int IntKind.i64 t, AVal.str d]], AObj.rows false 4 [[AVal.int IntKind.i64 0, AVal.int IntKind.i64 0, AVal.fsl true 0 [] (some 0), AVal.tt false]], AObj.rows false 1 [[AVal.nilp], [AVal.ptr 1 4 0 0]]] [AVal.nilp, AVal.int IntKind.i64 k] [] (AVal.tuple [AVal.agg [AVal.int IntKind.i64 0, AVal.str (ByteArray.mk #[])], AVal.int IntKind.i64 1]) [],
    true = true,
    true = true,
    true = true,
    Owed.use (owed Try.prog 0) 11 [] [AVal.nilp, AVal.int IntKind.i64 k] [AObj.rows true 2 [[AVal.int IntKind.i64 t, AVal.str d]], AObj.rows false 4 [[AVal.int IntKind.i64 0, AVal.int IntKind.i64 0, AVal.fsl true 0 [] (some 0), AVal.tt false]], AObj.rows false 1 [[AVal.nilp], [AVal.ptr 1 4 0 0]]] [AVal.nilp, AVal.int IntKind.i64 k] [] (AVal.tuple [AVal.int IntKind.i64 0, AVal.int IntKind.i64 1]) [],
    true = true,
    true = true,
    true = true,
    true = true]) by kernel_rfl) (allP_of (⟨⟨h1, rfl, rfl, rfl⟩, rfl, rfl, ⟨h2, rfl, rfl, rfl⟩, rfl, rfl, rfl, rfl, ⟨h3, rfl, rfl, rfl⟩, rfl, rfl, rfl, rfl, ⟨h4, rfl, rfl, rfl⟩, rfl, rfl, rfl, rfl, ⟨h5, rfl, rfl, rfl⟩, rfl, rfl, rfl, rfl, ⟨h6, rfl, rfl, rfl⟩, rfl, rfl, rfl, rfl, rfl, rfl, rfl, rfl, rfl, rfl, rfl, rfl, rfl, rfl, ⟨h7, rfl, rfl, rfl⟩, rfl, rfl, rfl, rfl, rfl, rfl, rfl, rfl, rfl, rfl, ⟨h8, rfl, rfl, rfl⟩, rfl, rfl, rfl, rfl, rfl, rfl, rfl, rfl, rfl, rfl, rfl, rfl, rfl, rfl, ⟨h9, rfl, rfl, rfl⟩, rfl, rfl, rfl, ⟨h10, rfl, rfl, rfl⟩, rfl, rfl, rfl, rfl, rfl, ⟨h11, rfl, rfl, rfl⟩, rfl, rfl, rfl, rfl, ⟨h12, rfl, rfl, rfl⟩, rfl, rfl, rfl, rfl, ⟨h13, rfl, rfl, rfl⟩, rfl, rfl, rfl, rfl, ⟨h14, rfl, rfl, rfl⟩, rfl, rfl, rfl, rfl, ⟨h15, rfl, rfl, rfl⟩, rfl, rfl, rfl, rfl, rfl, rfl, rfl, rfl, rfl, rfl, rfl, rfl, rfl, rfl, ⟨h16, rfl, rfl, rfl⟩, rfl, rfl, rfl, rfl, rfl, rfl, rfl, rfl, rfl, rfl, ⟨h17, rfl, rfl, rfl⟩, rfl, rfl, rfl, rfl, rfl, rfl, rfl, rfl, rfl, rfl, rfl, rfl, rfl, rfl, ⟨h18, rfl, rfl, rfl⟩, rfl, rfl, rfl, ⟨h19, rfl, rfl, rfl⟩, rfl, rfl, rfl, rfl, trivial⟩))).move ([]) (by kernel_rfl) (by kernel_rfl) (by kernel_rfl)


end Go.L06

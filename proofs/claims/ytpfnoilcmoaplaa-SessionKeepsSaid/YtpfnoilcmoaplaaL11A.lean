import Derived.Test.YtpfnoilcmoaplaaProg
import Derived.Test.YtpfnoilcmoaplaaAbsRow
set_option linter.unusedVariables false
set_option maxRecDepth 100000
namespace Go.L11
open Go Go.Abs Go.Proofs
instance : Glob := noGlob

theorem followed : Try.prog.follows .mixedOrders = true := by kernel_rfl

/-- a table, at its own two places -/
abbrev Tab (ents : List (AVal × AVal)) : AState := [.rows false 1 [[.map 1]], .mp true ents]
abbrev idv (s q : Int) : AVal := .agg [.int .i64 s, .int .i64 q]
abbrev rep (e a : Int) (b : Bool) (rs : List (List AVal)) : AVal := .agg [.int .i64 e, .int .i64 a, .fsl b 2 rs none]

theorem new_1 :
    FOk Try.prog 9 ([]) ([]) (AVal.ptr 0 1 0 0) ([AObj.rows false 1 [[AVal.map 1]], AObj.mp true []]) :=
  (evalF_ok followed Try.func9 (by kernel_rfl) (show evalF Try.prog Try.f9 ([]) ([]) ([]) = .ok (FRes.mk (AVal.ptr 1 1 0 0) ([AObj.mp true [], AObj.rows false 1 [[AVal.map 0]]]) []) by kernel_rfl) (allP_of (trivial))).move ([1, 0]) (by kernel_rfl) (by kernel_rfl) (by kernel_rfl)


theorem given_1 (s : Int) (q : Int) (ents : List (AVal × AVal))
    (h1 : decide (q ≥ 1) = true)
    (h2 : decide (s ≤ 2147483647) = true)
    (h3 : decide (s ≥ 0) = true) :
    FOk Try.prog 21 ([AVal.ptr 0 1 0 0, idv s q]) (Tab ents) (AVal.bool (decide (q ≤ 2147483647))) ([AObj.rows false 1 [[AVal.map 1]], AObj.mp true ents]) :=
  (evalF_ok followed Try.func21 (by kernel_rfl) (show evalF Try.prog Try.f21 ([AVal.ptr 0 1 0 0, idv s q]) (Tab ents) ([Dec.br true, Dec.br true, Dec.br true, Dec.br true, Dec.br true]) = .ok (FRes.mk (AVal.bool (decide (q ≤ 2147483647))) ([AObj.rows false 1 [[AVal.map 1]], AObj.mp true ents, AObj.rows true 2 [[AVal.int IntKind.i64 s, AVal.int IntKind.i64 q]]]) [true = true,
    true = true,
    true = true,
    decide (q ≥ 1) = true,
    true = true,
    true = true,
    true = true,
    decide (s ≤ 2147483647) = true,
    true = true,
    true = true,
    true = true,
    decide (s ≥ 0) = true,
    true = true,
    true = true,
    true = true,
    (!false) = true,
    true = true,
    true = true,
    (!false) = true]) by kernel_rfl) (allP_of (⟨rfl, rfl, rfl, h1, rfl, rfl, rfl, h2, rfl, rfl, rfl, h3, rfl, rfl, rfl, rfl, rfl, rfl, rfl, trivial⟩))).move ([0, 1]) (by kernel_rfl) (by kernel_rfl) (by kernel_rfl)

theorem given_2 (s : Int) (q : Int) (ents : List (AVal × AVal))
    (h1 : decide (q ≥ 1) = false)
    (h2 : decide (s ≤ 2147483647) = true)
    (h3 : decide (s ≥ 0) = true) :
    FOk Try.prog 21 ([AVal.ptr 0 1 0 0, idv s q]) (Tab ents) (AVal.bool false) ([AObj.rows false 1 [[AVal.map 1]], AObj.mp true ents]) :=
  (evalF_ok followed Try.func21 (by kernel_rfl) (show evalF Try.prog Try.f21 ([AVal.ptr 0 1 0 0, idv s q]) (Tab ents) ([Dec.br true, Dec.br true, Dec.br true, Dec.br true, Dec.br false]) = .ok (FRes.mk (AVal.bool false) ([AObj.rows false 1 [[AVal.map 1]], AObj.mp true ents, AObj.rows true 2 [[AVal.int IntKind.i64 s, AVal.int IntKind.i64 q]]]) [decide (q ≥ 1) = false,
    true = true,
    true = true,
    true = true,
    decide (s ≤ 2147483647) = true,
    true = true,
    true = true,
    true = true,
    decide (s ≥ 0) = true,
    true = true,
    true = true,
    true = true,
    (!false) = true,
    true = true,
    true = true,
    (!false) = true]) by kernel_rfl) (allP_of (⟨h1, rfl, rfl, rfl, h2, rfl, rfl, rfl, h3, rfl, rfl, rfl, rfl, rfl, rfl, rfl, trivial⟩))).move ([0, 1]) (by kernel_rfl) (by kernel_rfl) (by kernel_rfl)

theorem given_3 (s : Int) (q : Int) (ents : List (AVal × AVal))
    (h1 : decide (s ≤ 2147483647) = false)
    (h2 : decide (s ≥ 0) = true) :
    FOk Try.prog 21 ([AVal.ptr 0 1 0 0, idv s q]) (Tab ents) (AVal.bool false) ([AObj.rows false 1 [[AVal.map 1]], AObj.mp true ents]) :=
  (evalF_ok followed Try.func21 (by kernel_rfl) (show evalF Try.prog Try.f21 ([AVal.ptr 0 1 0 0, idv s q]) (Tab ents) ([Dec.br true, Dec.br true, Dec.br true, Dec.br false]) = .ok (FRes.mk (AVal.bool false) ([AObj.rows false 1 [[AVal.map 1]], AObj.mp true ents, AObj.rows true 2 [[AVal.int IntKind.i64 s, AVal.int IntKind.i64 q]]]) [decide (s ≤ 2147483647) = false,
    true = true,
    true = true,
    true = true,
    decide (s ≥ 0) = true,
    true = true,
    true = true,
    true = true,
    (!false) = true,
    true = true,
    true = true,
    (!false) = true]) by kernel_rfl) (allP_of (⟨h1, rfl, rfl, rfl, h2, rfl, rfl, rfl, rfl, rfl, rfl, rfl, trivial⟩))).move ([0, 1]) (by kernel_rfl) (by kernel_rfl) (by kernel_rfl)

theorem given_4 (s : Int) (q : Int) (ents : List (AVal × AVal))
    (h1 : decide (s ≥ 0) = false) :
    FOk Try.prog 21 ([AVal.ptr 0 1 0 0, idv s q]) (Tab ents) (AVal.bool false) ([AObj.rows false 1 [[AVal.map 1]], AObj.mp true ents]) :=
  (evalF_ok followed Try.func21 (by kernel_rfl) (show evalF Try.prog Try.f21 ([AVal.ptr 0 1 0 0, idv s q]) (Tab ents) ([Dec.br true, Dec.br true, Dec.br false]) = .ok (FRes.mk (AVal.bool false) ([AObj.rows false 1 [[AVal.map 1]], AObj.mp true ents, AObj.rows true 2 [[AVal.int IntKind.i64 s, AVal.int IntKind.i64 q]]]) [decide (s ≥ 0) = false,
    true = true,
    true = true,
    true = true,
    (!false) = true,
    true = true,
    true = true,
    (!false) = true]) by kernel_rfl) (allP_of (⟨h1, rfl, rfl, rfl, rfl, rfl, rfl, rfl, trivial⟩))).move ([0, 1]) (by kernel_rfl) (by kernel_rfl) (by kernel_rfl)


theorem clone_1 (b : Bool) (rs : List (List AVal))
    (h1 : b = true) :
    FOk Try.prog 29 ([AVal.fsl b 2 rs none]) ([]) (AVal.fsl true 2 [] none) ([]) :=
  (evalF_ok followed Try.func29 (by kernel_rfl) (show evalF Try.prog Try.f29 ([AVal.fsl b 2 rs none]) ([]) ([Dec.br true]) = .ok (FRes.mk (AVal.fsl true 2 [] none) ([]) [b = true]) by kernel_rfl) (allP_of (⟨h1, trivial⟩))).move ([]) (by kernel_rfl) (by kernel_rfl) (by kernel_rfl)

theorem clone_2 (b : Bool) (rs : List (List AVal))
    (h1 : decide ((0 + List.length rs) * 32 ≤ 140737488355328 ∧ 0 + List.length rs ≤ 9223372036854775807) = true)
    (h2 : (List.all rs fun r => List.all r oneCell) = true)
    (h3 : b = false) :
    FOk Try.prog 29 ([AVal.fsl b 2 rs none]) ([]) (AVal.slc false 0 2 0 (0 + List.length rs) none) ([AObj.rows true 2 rs]) :=
  (evalF_ok followed Try.func29 (by kernel_rfl) (show evalF Try.prog Try.f29 ([AVal.fsl b 2 rs none]) ([]) ([Dec.br false]) = .ok (FRes.mk (AVal.slc false 1 2 0 (0 + List.length rs) none) ([AObj.dead, AObj.rows true 2 rs]) [true = true,
    decide ((0 + List.length rs) * 32 ≤ 140737488355328 ∧ 0 + List.length rs ≤ 9223372036854775807) = true,
    (List.all rs fun r => List.all r oneCell) = true,
    b = false]) by kernel_rfl) (allP_of (⟨rfl, h1, h2, h3, trivial⟩))).move ([1]) (by kernel_rfl) (by kernel_rfl) (by kernel_rfl)


theorem own_1 (e : Int) (a : Int) (b : Bool) (rs : List (List AVal))
    (h1 : FOk Try.prog 29 [AVal.fsl b 2 rs none] [] (AVal.fsl b 2 rs none) []) :
    FOk Try.prog 22 ([rep e a b rs]) ([]) (AVal.agg [AVal.int IntKind.i64 e, AVal.int IntKind.i64 a, AVal.fsl b 2 rs none]) ([]) :=
  (evalF_ok followed Try.func22 (by kernel_rfl) (show evalF Try.prog Try.f22 ([rep e a b rs]) ([]) ([Dec.use [] [AVal.fsl b 2 rs none] [] (AVal.fsl b 2 rs none) []]) = .ok (FRes.mk (AVal.agg [AVal.int IntKind.i64 e, AVal.int IntKind.i64 a, AVal.fsl b 2 rs none]) ([AObj.rows false 3 [[AVal.int IntKind.i64 e, AVal.int IntKind.i64 a, AVal.fsl b 2 rs none]], AObj.rows false 3 [[AVal.int IntKind.i64 e, AVal.int IntKind.i64 a, AVal.fsl b 2 rs none]]]) [true = true,
    true = true,
    true = true,
    true = true,
    true = true,
    true = true,
    true = true,
    true = true,
    Owed.use (owed Try.prog 0) 29 [] [AVal.fsl b 2 rs none] [AObj.rows false 3 [[AVal.int IntKind.i64 e, AVal.int IntKind.i64 a, AVal.fsl b 2 rs none]], AObj.rows false 3 [[AVal.int IntKind.i64 0, AVal.int IntKind.i64 0, AVal.fsl true 0 [] (some 0)]]] [AVal.fsl b 2 rs none] [] (AVal.fsl b 2 rs none) [],
    true = true,
    true = true]) by kernel_rfl) (allP_of (⟨rfl, rfl, rfl, rfl, rfl, rfl, rfl, rfl, ⟨h1, rfl, rfl, rfl⟩, rfl, rfl, trivial⟩))).move ([]) (by kernel_rfl) (by kernel_rfl) (by kernel_rfl)



/-- what a session asked last, and was answered -/
abbrev last (q e a : Int) (b : Bool) (rs : List (List AVal)) : AVal := .agg [.int .i64 q, .int .i64 e, .int .i64 a, .fsl b 2 rs none]
abbrev zlast : AVal := .agg [.int .i64 0, .int .i64 0, .int .i64 0, .fsl true 0 [] (some 0)]

theorem putA_1 (s : Int) (q : Int) (e : Int) (a : Int) (b : Bool) (rs : List (List AVal)) (ents : List (AVal × AVal)) (q0 : Int) (e0 : Int) (a0 : Int) (b0 : Bool) (rs0 : List (List AVal)) (g : Bool) (th : Bool)
    (h1 : (!g) = true)
    (h2 : FOk Try.prog 21 [AVal.ptr 0 1 0 0, AVal.agg [AVal.int IntKind.i64 s, AVal.int IntKind.i64 q]] [AObj.rows false 1 [[AVal.map 1]], AObj.mp true ents] (AVal.bool g) [AObj.rows false 1 [[AVal.map 1]], AObj.mp true ents]) :
    FOk Try.prog 11 ([AVal.ptr 0 1 0 0, idv s q, rep e a b rs]) (Tab ents) (AVal.int IntKind.i64 1) ([AObj.rows false 1 [[AVal.map 1]], AObj.mp true ents]) :=
  (evalF_ok followed Try.func11 (by kernel_rfl) (show evalF Try.prog Try.f11 ([AVal.ptr 0 1 0 0, idv s q, rep e a b rs]) (Tab ents) ([Dec.use [0, 1] [AVal.ptr 0 1 0 0, AVal.agg [AVal.int IntKind.i64 s, AVal.int IntKind.i64 q]] [AObj.rows false 1 [[AVal.map 1]], AObj.mp true ents] (AVal.bool g) [AObj.rows false 1 [[AVal.map 1]], AObj.mp true ents], Dec.br true]) = .ok (FRes.mk (AVal.int IntKind.i64 1) ([AObj.rows false 1 [[AVal.map 1]], AObj.mp true ents, AObj.rows true 2 [[AVal.int IntKind.i64 s, AVal.int IntKind.i64 q]], AObj.rows false 3 [[AVal.int IntKind.i64 e, AVal.int IntKind.i64 a, AVal.fsl b 2 rs none]]]) [(!g) = true,
    Owed.use (owed Try.prog 2) 21 [0, 1] [AVal.ptr 0 1 0 0, AVal.agg [AVal.int IntKind.i64 s, AVal.int IntKind.i64 q]] [AObj.rows false 1 [[AVal.map 1]], AObj.mp true ents, AObj.rows true 2 [[AVal.int IntKind.i64 s, AVal.int IntKind.i64 q]], AObj.rows false 3 [[AVal.int IntKind.i64 e, AVal.int IntKind.i64 a, AVal.fsl b 2 rs none]]] [AVal.ptr 0 1 0 0, AVal.agg [AVal.int IntKind.i64 s, AVal.int IntKind.i64 q]] [AObj.rows false 1 [[AVal.map 1]], AObj.mp true ents] (AVal.bool g) [AObj.rows false 1 [[AVal.map 1]], AObj.mp true ents],
    true = true,
    true = true,
    true = true]) by kernel_rfl) (allP_of (⟨h1, ⟨h2, rfl, rfl, rfl⟩, rfl, rfl, rfl, trivial⟩))).move ([0, 1]) (by kernel_rfl) (by kernel_rfl) (by kernel_rfl)

theorem putA_2 (s : Int) (q : Int) (e : Int) (a : Int) (b : Bool) (rs : List (List AVal)) (ents : List (AVal × AVal)) (q0 : Int) (e0 : Int) (a0 : Int) (b0 : Bool) (rs0 : List (List AVal)) (g : Bool) (th : Bool)
    (h1 : decide ((↑(List.length rs) : Int) > 64) = true)
    (h2 : (!g) = false)
    (h3 : FOk Try.prog 21 [AVal.ptr 0 1 0 0, AVal.agg [AVal.int IntKind.i64 s, AVal.int IntKind.i64 q]] [AObj.rows false 1 [[AVal.map 1]], AObj.mp true ents] (AVal.bool g) [AObj.rows false 1 [[AVal.map 1]], AObj.mp true ents]) :
    FOk Try.prog 11 ([AVal.ptr 0 1 0 0, idv s q, rep e a b rs]) (Tab ents) (AVal.int IntKind.i64 1) ([AObj.rows false 1 [[AVal.map 1]], AObj.mp true ents]) :=
  (evalF_ok followed Try.func11 (by kernel_rfl) (show evalF Try.prog Try.f11 ([AVal.ptr 0 1 0 0, idv s q, rep e a b rs]) (Tab ents) ([Dec.use [0, 1] [AVal.ptr 0 1 0 0, AVal.agg [AVal.int IntKind.i64 s, AVal.int IntKind.i64 q]] [AObj.rows false 1 [[AVal.map 1]], AObj.mp true ents] (AVal.bool g) [AObj.rows false 1 [[AVal.map 1]], AObj.mp true ents], Dec.br false, Dec.br true]) = .ok (FRes.mk (AVal.int IntKind.i64 1) ([AObj.rows false 1 [[AVal.map 1]], AObj.mp true ents, AObj.rows true 2 [[AVal.int IntKind.i64 s, AVal.int IntKind.i64 q]], AObj.rows false 3 [[AVal.int IntKind.i64 e, AVal.int IntKind.i64 a, AVal.fsl b 2 rs none]]]) [decide ((↑(List.length rs) : Int) > 64) = true,
    true = true,
    true = true,
    (!g) = false,
    Owed.use (owed Try.prog 2) 21 [0, 1] [AVal.ptr 0 1 0 0, AVal.agg [AVal.int IntKind.i64 s, AVal.int IntKind.i64 q]] [AObj.rows false 1 [[AVal.map 1]], AObj.mp true ents, AObj.rows true 2 [[AVal.int IntKind.i64 s, AVal.int IntKind.i64 q]], AObj.rows false 3 [[AVal.int IntKind.i64 e, AVal.int IntKind.i64 a, AVal.fsl b 2 rs none]]] [AVal.ptr 0 1 0 0, AVal.agg [AVal.int IntKind.i64 s, AVal.int IntKind.i64 q]] [AObj.rows false 1 [[AVal.map 1]], AObj.mp true ents] (AVal.bool g) [AObj.rows false 1 [[AVal.map 1]], AObj.mp true ents],
    true = true,
    true = true,
    true = true]) by kernel_rfl) (allP_of (⟨h1, rfl, rfl, h2, ⟨h3, rfl, rfl, rfl⟩, rfl, rfl, rfl, trivial⟩))).move ([0, 1]) (by kernel_rfl) (by kernel_rfl) (by kernel_rfl)

theorem putA_3 (s : Int) (q : Int) (e : Int) (a : Int) (b : Bool) (rs : List (List AVal)) (ents : List (AVal × AVal)) (q0 : Int) (e0 : Int) (a0 : Int) (b0 : Bool) (rs0 : List (List AVal)) (g : Bool) (th : Bool)
    (h1 : decide (q0 ≥ q) = true)
    (h2 : AVal.tuple [AVal.agg (reifyL [Kind.int IntKind.i64, Kind.int IntKind.i64, Kind.int IntKind.i64, Kind.slice 2] (AVal.cells (Option.getD (afind (AVal.int IntKind.i64 s) ents) (AVal.agg [AVal.int IntKind.i64 0, AVal.int IntKind.i64 0, AVal.int IntKind.i64 0, AVal.fsl true 0 [] (some 0)])))), AVal.bool (Option.isSome (afind (AVal.int IntKind.i64 s) ents))] = AVal.tuple [AVal.agg [AVal.int IntKind.i64 q0, AVal.int IntKind.i64 e0, AVal.int IntKind.i64 a0, AVal.fsl b0 2 rs0 none], AVal.bool th])
    (h3 : okCells Try.prog 63 (Option.getD (afind (AVal.int IntKind.i64 s) ents) (AVal.agg [AVal.int IntKind.i64 0, AVal.int IntKind.i64 0, AVal.int IntKind.i64 0, AVal.fsl true 0 [] (some 0)])) = true)
    (h4 : (List.all ents fun p => keyKind Try.prog 3 (Prod.fst p)) = true)
    (h5 : decide ((↑(List.length rs) : Int) > 64) = false)
    (h6 : (!g) = false)
    (h7 : FOk Try.prog 21 [AVal.ptr 0 1 0 0, AVal.agg [AVal.int IntKind.i64 s, AVal.int IntKind.i64 q]] [AObj.rows false 1 [[AVal.map 1]], AObj.mp true ents] (AVal.bool g) [AObj.rows false 1 [[AVal.map 1]], AObj.mp true ents]) :
    FOk Try.prog 11 ([AVal.ptr 0 1 0 0, idv s q, rep e a b rs]) (Tab ents) (AVal.int IntKind.i64 110) ([AObj.rows false 1 [[AVal.map 1]], AObj.mp true ents]) :=
  (evalF_ok followed Try.func11 (by kernel_rfl) (show evalF Try.prog Try.f11 ([AVal.ptr 0 1 0 0, idv s q, rep e a b rs]) (Tab ents) ([Dec.use [0, 1] [AVal.ptr 0 1 0 0, AVal.agg [AVal.int IntKind.i64 s, AVal.int IntKind.i64 q]] [AObj.rows false 1 [[AVal.map 1]], AObj.mp true ents] (AVal.bool g) [AObj.rows false 1 [[AVal.map 1]], AObj.mp true ents], Dec.br false, Dec.br false, Dec.rw (AVal.tuple [last q0 e0 a0 b0 rs0, AVal.bool th]), Dec.br true]) = .ok (FRes.mk (AVal.int IntKind.i64 110) ([AObj.rows false 1 [[AVal.map 1]], AObj.mp true ents, AObj.rows true 2 [[AVal.int IntKind.i64 s, AVal.int IntKind.i64 q]], AObj.rows false 3 [[AVal.int IntKind.i64 e, AVal.int IntKind.i64 a, AVal.fsl b 2 rs none]], AObj.rows false 4 [[AVal.int IntKind.i64 q0, AVal.int IntKind.i64 e0, AVal.int IntKind.i64 a0, AVal.fsl b0 2 rs0 none]]]) [decide (q0 ≥ q) = true,
    true = true,
    true = true,
    true = true,
    true = true,
    true = true,
    true = true,
    true = true,
    true = true,
    true = true,
    true = true,
    true = true,
    true = true,
    true = true,
    true = true,
    true = true,
    true = true,
    true = true,
    true = true,
    true = true,
    true = true,
    true = true,
    true = true,
    AVal.tuple [AVal.agg (reifyL [Kind.int IntKind.i64, Kind.int IntKind.i64, Kind.int IntKind.i64, Kind.slice 2] (AVal.cells (Option.getD (afind (AVal.int IntKind.i64 s) ents) (AVal.agg [AVal.int IntKind.i64 0, AVal.int IntKind.i64 0, AVal.int IntKind.i64 0, AVal.fsl true 0 [] (some 0)])))), AVal.bool (Option.isSome (afind (AVal.int IntKind.i64 s) ents))] = AVal.tuple [AVal.agg [AVal.int IntKind.i64 q0, AVal.int IntKind.i64 e0, AVal.int IntKind.i64 a0, AVal.fsl b0 2 rs0 none], AVal.bool th],
    okCells Try.prog 63 (Option.getD (afind (AVal.int IntKind.i64 s) ents) (AVal.agg [AVal.int IntKind.i64 0, AVal.int IntKind.i64 0, AVal.int IntKind.i64 0, AVal.fsl true 0 [] (some 0)])) = true,
    (List.all ents fun p => keyKind Try.prog 3 (Prod.fst p)) = true,
    true = true,
    true = true,
    true = true,
    true = true,
    true = true,
    true = true,
    true = true,
    true = true,
    true = true,
    true = true,
    true = true,
    true = true,
    true = true,
    true = true,
    true = true,
    true = true,
    true = true,
    true = true,
    true = true,
    true = true,
    true = true,
    true = true,
    decide ((↑(List.length rs) : Int) > 64) = false,
    true = true,
    true = true,
    (!g) = false,
    Owed.use (owed Try.prog 2) 21 [0, 1] [AVal.ptr 0 1 0 0, AVal.agg [AVal.int IntKind.i64 s, AVal.int IntKind.i64 q]] [AObj.rows false 1 [[AVal.map 1]], AObj.mp true ents, AObj.rows true 2 [[AVal.int IntKind.i64 s, AVal.int IntKind.i64 q]], AObj.rows false 3 [[AVal.int IntKind.i64 e, AVal.int IntKind.i64 a, AVal.fsl b 2 rs none]]] [AVal.ptr 0 1 0 0, AVal.agg [AVal.int IntKind.i64 s, AVal.int IntKind.i64 q]] [AObj.rows false 1 [[AVal.map 1]], AObj.mp true ents] (AVal.bool g) [AObj.rows false 1 [[AVal.map 1]], AObj.mp true ents],
    true = true,
    true = true,
    true = true]) by kernel_rfl) (allP_of (⟨h1, rfl, rfl, rfl, rfl, rfl, rfl, rfl, rfl, rfl, rfl, rfl, rfl, rfl, rfl, rfl, rfl, rfl, rfl, rfl, rfl, rfl, rfl, h2, h3, h4, rfl, rfl, rfl, rfl, rfl, rfl, rfl, rfl, rfl, rfl, rfl, rfl, rfl, rfl, rfl, rfl, rfl, rfl, rfl, rfl, rfl, rfl, h5, rfl, rfl, h6, ⟨h7, rfl, rfl, rfl⟩, rfl, rfl, rfl, trivial⟩))).move ([0, 1]) (by kernel_rfl) (by kernel_rfl) (by kernel_rfl)

theorem putA_4 (s : Int) (q : Int) (e : Int) (a : Int) (b : Bool) (rs : List (List AVal)) (ents : List (AVal × AVal)) (q0 : Int) (e0 : Int) (a0 : Int) (b0 : Bool) (rs0 : List (List AVal)) (g : Bool) (th : Bool)
    (h1 : decide ((↑(List.length ents) : Int) ≥ 64) = true)
    (h2 : (!th) = true)
    (h3 : decide (q0 ≥ q) = false)
    (h4 : AVal.tuple [AVal.agg (reifyL [Kind.int IntKind.i64, Kind.int IntKind.i64, Kind.int IntKind.i64, Kind.slice 2] (AVal.cells (Option.getD (afind (AVal.int IntKind.i64 s) ents) (AVal.agg [AVal.int IntKind.i64 0, AVal.int IntKind.i64 0, AVal.int IntKind.i64 0, AVal.fsl true 0 [] (some 0)])))), AVal.bool (Option.isSome (afind (AVal.int IntKind.i64 s) ents))] = AVal.tuple [AVal.agg [AVal.int IntKind.i64 q0, AVal.int IntKind.i64 e0, AVal.int IntKind.i64 a0, AVal.fsl b0 2 rs0 none], AVal.bool th])
    (h5 : okCells Try.prog 63 (Option.getD (afind (AVal.int IntKind.i64 s) ents) (AVal.agg [AVal.int IntKind.i64 0, AVal.int IntKind.i64 0, AVal.int IntKind.i64 0, AVal.fsl true 0 [] (some 0)])) = true)
    (h6 : (List.all ents fun p => keyKind Try.prog 3 (Prod.fst p)) = true)
    (h7 : decide ((↑(List.length rs) : Int) > 64) = false)
    (h8 : (!g) = false)
    (h9 : FOk Try.prog 21 [AVal.ptr 0 1 0 0, AVal.agg [AVal.int IntKind.i64 s, AVal.int IntKind.i64 q]] [AObj.rows false 1 [[AVal.map 1]], AObj.mp true ents] (AVal.bool g) [AObj.rows false 1 [[AVal.map 1]], AObj.mp true ents]) :
    FOk Try.prog 11 ([AVal.ptr 0 1 0 0, idv s q, rep e a b rs]) (Tab ents) (AVal.int IntKind.i64 2) ([AObj.rows false 1 [[AVal.map 1]], AObj.mp true ents]) :=
  (evalF_ok followed Try.func11 (by kernel_rfl) (show evalF Try.prog Try.f11 ([AVal.ptr 0 1 0 0, idv s q, rep e a b rs]) (Tab ents) ([Dec.use [0, 1] [AVal.ptr 0 1 0 0, AVal.agg [AVal.int IntKind.i64 s, AVal.int IntKind.i64 q]] [AObj.rows false 1 [[AVal.map 1]], AObj.mp true ents] (AVal.bool g) [AObj.rows false 1 [[AVal.map 1]], AObj.mp true ents], Dec.br false, Dec.br false, Dec.rw (AVal.tuple [last q0 e0 a0 b0 rs0, AVal.bool th]), Dec.br false, Dec.br true, Dec.br true]) = .ok (FRes.mk (AVal.int IntKind.i64 2) ([AObj.rows false 1 [[AVal.map 1]], AObj.mp true ents, AObj.rows true 2 [[AVal.int IntKind.i64 s, AVal.int IntKind.i64 q]], AObj.rows false 3 [[AVal.int IntKind.i64 e, AVal.int IntKind.i64 a, AVal.fsl b 2 rs none]], AObj.rows false 4 [[AVal.int IntKind.i64 q0, AVal.int IntKind.i64 e0, AVal.int IntKind.i64 a0, AVal.fsl b0 2 rs0 none]]]) [decide ((↑(List.length ents) : Int) ≥ 64) = true,
    true = true,
    true = true,
    (!th) = true,
    decide (q0 ≥ q) = false,
    true = true,
    true = true,
    true = true,
    true = true,
    true = true,
    true = true,
    true = true,
    true = true,
    true = true,
    true = true,
    true = true,
    true = true,
    true = true,
    true = true,
    true = true,
    true = true,
    true = true,
    true = true,
    true = true,
    true = true,
    true = true,
    true = true,
    AVal.tuple [AVal.agg (reifyL [Kind.int IntKind.i64, Kind.int IntKind.i64, Kind.int IntKind.i64, Kind.slice 2] (AVal.cells (Option.getD (afind (AVal.int IntKind.i64 s) ents) (AVal.agg [AVal.int IntKind.i64 0, AVal.int IntKind.i64 0, AVal.int IntKind.i64 0, AVal.fsl true 0 [] (some 0)])))), AVal.bool (Option.isSome (afind (AVal.int IntKind.i64 s) ents))] = AVal.tuple [AVal.agg [AVal.int IntKind.i64 q0, AVal.int IntKind.i64 e0, AVal.int IntKind.i64 a0, AVal.fsl b0 2 rs0 none], AVal.bool th],
    okCells Try.prog 63 (Option.getD (afind (AVal.int IntKind.i64 s) ents) (AVal.agg [AVal.int IntKind.i64 0, AVal.int IntKind.i64 0, AVal.int IntKind.i64 0, AVal.fsl true 0 [] (some 0)])) = true,
    (List.all ents fun p => keyKind Try.prog 3 (Prod.fst p)) = true,
    true = true,
    true = true,
    true = true,
    true = true,
    true = true,
    true = true,
    true = true,
    true = true,
    true = true,
    true = true,
    true = true,
    true = true,
    true = true,
    true = true,
    true = true,
    true = true,
    true = true,
    true = true,
    true = true,
    true = true,
    true = true,
    true = true,
    decide ((↑(List.length rs) : Int) > 64) = false,
    true = true,
    true = true,
    (!g) = false,
    Owed.use (owed Try.prog 2) 21 [0, 1] [AVal.ptr 0 1 0 0, AVal.agg [AVal.int IntKind.i64 s, AVal.int IntKind.i64 q]] [AObj.rows false 1 [[AVal.map 1]], AObj.mp true ents, AObj.rows true 2 [[AVal.int IntKind.i64 s, AVal.int IntKind.i64 q]], AObj.rows false 3 [[AVal.int IntKind.i64 e, AVal.int IntKind.i64 a, AVal.fsl b 2 rs none]]] [AVal.ptr 0 1 0 0, AVal.agg [AVal.int IntKind.i64 s, AVal.int IntKind.i64 q]] [AObj.rows false 1 [[AVal.map 1]], AObj.mp true ents] (AVal.bool g) [AObj.rows false 1 [[AVal.map 1]], AObj.mp true ents],
    true = true,
    true = true,
    true = true]) by kernel_rfl) (allP_of (⟨h1, rfl, rfl, h2, h3, rfl, rfl, rfl, rfl, rfl, rfl, rfl, rfl, rfl, rfl, rfl, rfl, rfl, rfl, rfl, rfl, rfl, rfl, rfl, rfl, rfl, rfl, h4, h5, h6, rfl, rfl, rfl, rfl, rfl, rfl, rfl, rfl, rfl, rfl, rfl, rfl, rfl, rfl, rfl, rfl, rfl, rfl, rfl, rfl, rfl, rfl, h7, rfl, rfl, h8, ⟨h9, rfl, rfl, rfl⟩, rfl, rfl, rfl, trivial⟩))).move ([0, 1]) (by kernel_rfl) (by kernel_rfl) (by kernel_rfl)

theorem putA_5 (s : Int) (q : Int) (e : Int) (a : Int) (b : Bool) (rs : List (List AVal)) (ents : List (AVal × AVal)) (q0 : Int) (e0 : Int) (a0 : Int) (b0 : Bool) (rs0 : List (List AVal)) (g : Bool) (th : Bool)
    (h1 : (List.all ents fun p => keyKind Try.prog 3 (Prod.fst p)) = true)
    (h2 : FOk Try.prog 22 [AVal.agg [AVal.int IntKind.i64 e, AVal.int IntKind.i64 a, AVal.fsl b 2 rs none]] [] (AVal.agg [AVal.int IntKind.i64 e, AVal.int IntKind.i64 a, AVal.fsl b 2 rs none]) [])
    (h3 : decide ((↑(List.length ents) : Int) ≥ 64) = false)
    (h4 : (!th) = true)
    (h5 : decide (q0 ≥ q) = false)
    (h6 : AVal.tuple [AVal.agg (reifyL [Kind.int IntKind.i64, Kind.int IntKind.i64, Kind.int IntKind.i64, Kind.slice 2] (AVal.cells (Option.getD (afind (AVal.int IntKind.i64 s) ents) (AVal.agg [AVal.int IntKind.i64 0, AVal.int IntKind.i64 0, AVal.int IntKind.i64 0, AVal.fsl true 0 [] (some 0)])))), AVal.bool (Option.isSome (afind (AVal.int IntKind.i64 s) ents))] = AVal.tuple [AVal.agg [AVal.int IntKind.i64 q0, AVal.int IntKind.i64 e0, AVal.int IntKind.i64 a0, AVal.fsl b0 2 rs0 none], AVal.bool th])
    (h7 : okCells Try.prog 63 (Option.getD (afind (AVal.int IntKind.i64 s) ents) (AVal.agg [AVal.int IntKind.i64 0, AVal.int IntKind.i64 0, AVal.int IntKind.i64 0, AVal.fsl true 0 [] (some 0)])) = true)
    (h8 : decide ((↑(List.length rs) : Int) > 64) = false)
    (h9 : (!g) = false)
    (h10 : FOk Try.prog 21 [AVal.ptr 0 1 0 0, AVal.agg [AVal.int IntKind.i64 s, AVal.int IntKind.i64 q]] [AObj.rows false 1 [[AVal.map 1]], AObj.mp true ents] (AVal.bool g) [AObj.rows false 1 [[AVal.map 1]], AObj.mp true ents]) :
    FOk Try.prog 11 ([AVal.ptr 0 1 0 0, idv s q, rep e a b rs]) (Tab ents) (AVal.int IntKind.i64 0) ([AObj.rows false 1 [[AVal.map 1]], AObj.mp true (aput (AVal.int IntKind.i64 s) (AVal.agg [AVal.int IntKind.i64 q, AVal.int IntKind.i64 e, AVal.int IntKind.i64 a, AVal.fsl b 2 rs none]) ents)]) :=
  (evalF_ok followed Try.func11 (by kernel_rfl) (show evalF Try.prog Try.f11 ([AVal.ptr 0 1 0 0, idv s q, rep e a b rs]) (Tab ents) ([Dec.use [0, 1] [AVal.ptr 0 1 0 0, AVal.agg [AVal.int IntKind.i64 s, AVal.int IntKind.i64 q]] [AObj.rows false 1 [[AVal.map 1]], AObj.mp true ents] (AVal.bool g) [AObj.rows false 1 [[AVal.map 1]], AObj.mp true ents], Dec.br false, Dec.br false, Dec.rw (AVal.tuple [last q0 e0 a0 b0 rs0, AVal.bool th]), Dec.br false, Dec.br true, Dec.br false, Dec.use [] [AVal.agg [AVal.int IntKind.i64 e, AVal.int IntKind.i64 a, AVal.fsl b 2 rs none]] [] (rep e a b rs) []]) = .ok (FRes.mk (AVal.int IntKind.i64 0) ([AObj.rows false 1 [[AVal.map 1]], AObj.mp true (aput (AVal.int IntKind.i64 s) (AVal.agg [AVal.int IntKind.i64 q, AVal.int IntKind.i64 e, AVal.int IntKind.i64 a, AVal.fsl b 2 rs none]) ents), AObj.rows true 2 [[AVal.int IntKind.i64 s, AVal.int IntKind.i64 q]], AObj.rows false 3 [[AVal.int IntKind.i64 e, AVal.int IntKind.i64 a, AVal.fsl b 2 rs none]], AObj.rows false 4 [[AVal.int IntKind.i64 q0, AVal.int IntKind.i64 e0, AVal.int IntKind.i64 a0, AVal.fsl b0 2 rs0 none]]]) [true = true,
    true = true,
    (List.all ents fun p => keyKind Try.prog 3 (Prod.fst p)) = true,
    true = true,
    true = true,
    true = true,
    true = true,
    Owed.use (owed Try.prog 2) 22 [] [AVal.agg [AVal.int IntKind.i64 e, AVal.int IntKind.i64 a, AVal.fsl b 2 rs none]] [AObj.rows false 1 [[AVal.map 1]], AObj.mp true ents, AObj.rows true 2 [[AVal.int IntKind.i64 s, AVal.int IntKind.i64 q]], AObj.rows false 3 [[AVal.int IntKind.i64 e, AVal.int IntKind.i64 a, AVal.fsl b 2 rs none]], AObj.rows false 4 [[AVal.int IntKind.i64 q0, AVal.int IntKind.i64 e0, AVal.int IntKind.i64 a0, AVal.fsl b0 2 rs0 none]]] [AVal.agg [AVal.int IntKind.i64 e, AVal.int IntKind.i64 a, AVal.fsl b 2 rs none]] [] (AVal.agg [AVal.int IntKind.i64 e, AVal.int IntKind.i64 a, AVal.fsl b 2 rs none]) [],
    true = true,
    true = true,
    true = true,
    true = true,
    true = true,
    true = true,
    true = true,
    true = true,
    true = true,
    true = true,
    true = true,
    true = true,
    true = true,
    true = true,
    true = true,
    true = true,
    true = true,
    true = true,
    true = true,
    true = true,
    true = true,
    true = true,
    true = true,
    true = true,
    true = true,
    true = true,
    true = true,
    true = true,
    true = true,
    true = true,
    true = true,
    true = true,
    true = true,
    true = true,
    true = true,
    true = true,
    true = true,
    true = true,
    true = true,
    true = true,
    true = true,
    true = true,
    true = true,
    true = true,
    true = true,
    true = true,
    true = true,
    decide ((↑(List.length ents) : Int) ≥ 64) = false,
    true = true,
    true = true,
    (!th) = true,
    decide (q0 ≥ q) = false,
    true = true,
    true = true,
    true = true,
    true = true,
    true = true,
    true = true,
    true = true,
    true = true,
    true = true,
    true = true,
    true = true,
    true = true,
    true = true,
    true = true,
    true = true,
    true = true,
    true = true,
    true = true,
    true = true,
    true = true,
    true = true,
    true = true,
    AVal.tuple [AVal.agg (reifyL [Kind.int IntKind.i64, Kind.int IntKind.i64, Kind.int IntKind.i64, Kind.slice 2] (AVal.cells (Option.getD (afind (AVal.int IntKind.i64 s) ents) (AVal.agg [AVal.int IntKind.i64 0, AVal.int IntKind.i64 0, AVal.int IntKind.i64 0, AVal.fsl true 0 [] (some 0)])))), AVal.bool (Option.isSome (afind (AVal.int IntKind.i64 s) ents))] = AVal.tuple [AVal.agg [AVal.int IntKind.i64 q0, AVal.int IntKind.i64 e0, AVal.int IntKind.i64 a0, AVal.fsl b0 2 rs0 none], AVal.bool th],
    okCells Try.prog 63 (Option.getD (afind (AVal.int IntKind.i64 s) ents) (AVal.agg [AVal.int IntKind.i64 0, AVal.int IntKind.i64 0, AVal.int IntKind.i64 0, AVal.fsl true 0 [] (some 0)])) = true,
    (List.all ents fun p => keyKind Try.prog 3 (Prod.fst p)) = true,
    true = true,
    true = true,
    true = true,
    true = true,
    true = true,
    true = true,
    true = true,
    true = true,
    true = true,
    true = true,
    true = true,
    true = true,
    true = true,
    true = true,
    true = true,
    true = true,
    true = true,
    true = true,
    true = true,
    true = true,
    true = true,
    true = true,
    decide ((↑(List.length rs) : Int) > 64) = false,
    true = true,
    true = true,
    (!g) = false,
    Owed.use (owed Try.prog 2) 21 [0, 1] [AVal.ptr 0 1 0 0, AVal.agg [AVal.int IntKind.i64 s, AVal.int IntKind.i64 q]] [AObj.rows false 1 [[AVal.map 1]], AObj.mp true ents, AObj.rows true 2 [[AVal.int IntKind.i64 s, AVal.int IntKind.i64 q]], AObj.rows false 3 [[AVal.int IntKind.i64 e, AVal.int IntKind.i64 a, AVal.fsl b 2 rs none]]] [AVal.ptr 0 1 0 0, AVal.agg [AVal.int IntKind.i64 s, AVal.int IntKind.i64 q]] [AObj.rows false 1 [[AVal.map 1]], AObj.mp true ents] (AVal.bool g) [AObj.rows false 1 [[AVal.map 1]], AObj.mp true ents],
    true = true,
    true = true,
    true = true]) by kernel_rfl) (allP_of (⟨rfl, rfl, h1, rfl, rfl, rfl, rfl, ⟨h2, rfl, rfl, rfl⟩, rfl, rfl, rfl, rfl, rfl, rfl, rfl, rfl, rfl, rfl, rfl, rfl, rfl, rfl, rfl, rfl, rfl, rfl, rfl, rfl, rfl, rfl, rfl, rfl, rfl, rfl, rfl, rfl, rfl, rfl, rfl, rfl, rfl, rfl, rfl, rfl, rfl, rfl, rfl, rfl, rfl, rfl, rfl, rfl, rfl, rfl, rfl, h3, rfl, rfl, h4, h5, rfl, rfl, rfl, rfl, rfl, rfl, rfl, rfl, rfl, rfl, rfl, rfl, rfl, rfl, rfl, rfl, rfl, rfl, rfl, rfl, rfl, rfl, h6, h7, h1, rfl, rfl, rfl, rfl, rfl, rfl, rfl, rfl, rfl, rfl, rfl, rfl, rfl, rfl, rfl, rfl, rfl, rfl, rfl, rfl, rfl, rfl, h8, rfl, rfl, h9, ⟨h10, rfl, rfl, rfl⟩, rfl, rfl, rfl, trivial⟩))).move ([0, 1]) (by kernel_rfl) (by kernel_rfl) (by kernel_rfl)

theorem putA_6 (s : Int) (q : Int) (e : Int) (a : Int) (b : Bool) (rs : List (List AVal)) (ents : List (AVal × AVal)) (q0 : Int) (e0 : Int) (a0 : Int) (b0 : Bool) (rs0 : List (List AVal)) (g : Bool) (th : Bool)
    (h1 : (List.all ents fun p => keyKind Try.prog 3 (Prod.fst p)) = true)
    (h2 : FOk Try.prog 22 [AVal.agg [AVal.int IntKind.i64 e, AVal.int IntKind.i64 a, AVal.fsl b 2 rs none]] [] (AVal.agg [AVal.int IntKind.i64 e, AVal.int IntKind.i64 a, AVal.fsl b 2 rs none]) [])
    (h3 : (!th) = false)
    (h4 : decide (q0 ≥ q) = false)
    (h5 : AVal.tuple [AVal.agg (reifyL [Kind.int IntKind.i64, Kind.int IntKind.i64, Kind.int IntKind.i64, Kind.slice 2] (AVal.cells (Option.getD (afind (AVal.int IntKind.i64 s) ents) (AVal.agg [AVal.int IntKind.i64 0, AVal.int IntKind.i64 0, AVal.int IntKind.i64 0, AVal.fsl true 0 [] (some 0)])))), AVal.bool (Option.isSome (afind (AVal.int IntKind.i64 s) ents))] = AVal.tuple [AVal.agg [AVal.int IntKind.i64 q0, AVal.int IntKind.i64 e0, AVal.int IntKind.i64 a0, AVal.fsl b0 2 rs0 none], AVal.bool th])
    (h6 : okCells Try.prog 63 (Option.getD (afind (AVal.int IntKind.i64 s) ents) (AVal.agg [AVal.int IntKind.i64 0, AVal.int IntKind.i64 0, AVal.int IntKind.i64 0, AVal.fsl true 0 [] (some 0)])) = true)
    (h7 : decide ((↑(List.length rs) : Int) > 64) = false)
    (h8 : (!g) = false)
    (h9 : FOk Try.prog 21 [AVal.ptr 0 1 0 0, AVal.agg [AVal.int IntKind.i64 s, AVal.int IntKind.i64 q]] [AObj.rows false 1 [[AVal.map 1]], AObj.mp true ents] (AVal.bool g) [AObj.rows false 1 [[AVal.map 1]], AObj.mp true ents]) :
    FOk Try.prog 11 ([AVal.ptr 0 1 0 0, idv s q, rep e a b rs]) (Tab ents) (AVal.int IntKind.i64 0) ([AObj.rows false 1 [[AVal.map 1]], AObj.mp true (aput (AVal.int IntKind.i64 s) (AVal.agg [AVal.int IntKind.i64 q, AVal.int IntKind.i64 e, AVal.int IntKind.i64 a, AVal.fsl b 2 rs none]) ents)]) :=
  (evalF_ok followed Try.func11 (by kernel_rfl) (show evalF Try.prog Try.f11 ([AVal.ptr 0 1 0 0, idv s q, rep e a b rs]) (Tab ents) ([Dec.use [0, 1] [AVal.ptr 0 1 0 0, AVal.agg [AVal.int IntKind.i64 s, AVal.int IntKind.i64 q]] [AObj.rows false 1 [[AVal.map 1]], AObj.mp true ents] (AVal.bool g) [AObj.rows false 1 [[AVal.map 1]], AObj.mp true ents], Dec.br false, Dec.br false, Dec.rw (AVal.tuple [last q0 e0 a0 b0 rs0, AVal.bool th]), Dec.br false, Dec.br false, Dec.use [] [AVal.agg [AVal.int IntKind.i64 e, AVal.int IntKind.i64 a, AVal.fsl b 2 rs none]] [] (rep e a b rs) []]) = .ok (FRes.mk (AVal.int IntKind.i64 0) ([AObj.rows false 1 [[AVal.map 1]], AObj.mp true (aput (AVal.int IntKind.i64 s) (AVal.agg [AVal.int IntKind.i64 q, AVal.int IntKind.i64 e, AVal.int IntKind.i64 a, AVal.fsl b 2 rs none]) ents), AObj.rows true 2 [[AVal.int IntKind.i64 s, AVal.int IntKind.i64 q]], AObj.rows false 3 [[AVal.int IntKind.i64 e, AVal.int IntKind.i64 a, AVal.fsl b 2 rs none]], AObj.rows false 4 [[AVal.int IntKind.i64 q0, AVal.int IntKind.i64 e0, AVal.int IntKind.i64 a0, AVal.fsl b0 2 rs0 none]]]) [true = true,
    true = true,
    (List.all ents fun p => keyKind Try.prog 3 (Prod.fst p)) = true,
    true = true,
    true = true,
    true = true,
    true = true,
    Owed.use (owed Try.prog 2) 22 [] [AVal.agg [AVal.int IntKind.i64 e, AVal.int IntKind.i64 a, AVal.fsl b 2 rs none]] [AObj.rows false 1 [[AVal.map 1]], AObj.mp true ents, AObj.rows true 2 [[AVal.int IntKind.i64 s, AVal.int IntKind.i64 q]], AObj.rows false 3 [[AVal.int IntKind.i64 e, AVal.int IntKind.i64 a, AVal.fsl b 2 rs none]], AObj.rows false 4 [[AVal.int IntKind.i64 q0, AVal.int IntKind.i64 e0, AVal.int IntKind.i64 a0, AVal.fsl b0 2 rs0 none]]] [AVal.agg [AVal.int IntKind.i64 e, AVal.int IntKind.i64 a, AVal.fsl b 2 rs none]] [] (AVal.agg [AVal.int IntKind.i64 e, AVal.int IntKind.i64 a, AVal.fsl b 2 rs none]) [],
    true = true,
    true = true,
    true = true,
    true = true,
    true = true,
    true = true,
    true = true,
    true = true,
    true = true,
    true = true,
    true = true,
    true = true,
    true = true,
    true = true,
    true = true,
    true = true,
    true = true,
    true = true,
    true = true,
    true = true,
    true = true,
    true = true,
    true = true,
    true = true,
    true = true,
    true = true,
    true = true,
    true = true,
    true = true,
    true = true,
    true = true,
    true = true,
    true = true,
    true = true,
    true = true,
    true = true,
    true = true,
    true = true,
    true = true,
    true = true,
    true = true,
    true = true,
    true = true,
    true = true,
    true = true,
    true = true,
    true = true,
    (!th) = false,
    decide (q0 ≥ q) = false,
    true = true,
    true = true,
    true = true,
    true = true,
    true = true,
    true = true,
    true = true,
    true = true,
    true = true,
    true = true,
    true = true,
    true = true,
    true = true,
    true = true,
    true = true,
    true = true,
    true = true,
    true = true,
    true = true,
    true = true,
    true = true,
    true = true,
    AVal.tuple [AVal.agg (reifyL [Kind.int IntKind.i64, Kind.int IntKind.i64, Kind.int IntKind.i64, Kind.slice 2] (AVal.cells (Option.getD (afind (AVal.int IntKind.i64 s) ents) (AVal.agg [AVal.int IntKind.i64 0, AVal.int IntKind.i64 0, AVal.int IntKind.i64 0, AVal.fsl true 0 [] (some 0)])))), AVal.bool (Option.isSome (afind (AVal.int IntKind.i64 s) ents))] = AVal.tuple [AVal.agg [AVal.int IntKind.i64 q0, AVal.int IntKind.i64 e0, AVal.int IntKind.i64 a0, AVal.fsl b0 2 rs0 none], AVal.bool th],
    okCells Try.prog 63 (Option.getD (afind (AVal.int IntKind.i64 s) ents) (AVal.agg [AVal.int IntKind.i64 0, AVal.int IntKind.i64 0, AVal.int IntKind.i64 0, AVal.fsl true 0 [] (some 0)])) = true,
    (List.all ents fun p => keyKind Try.prog 3 (Prod.fst p)) = true,
    true = true,
    true = true,
    true = true,
    true = true,
    true = true,
    true = true,
    true = true,
    true = true,
    true = true,
    true = true,
    true = true,
    true = true,
    true = true,
    true = true,
    true = true,
    true = true,
    true = true,
    true = true,
    true = true,
    true = true,
    true = true,
    true = true,
    decide ((↑(List.length rs) : Int) > 64) = false,
    true = true,
    true = true,
    (!g) = false,
    Owed.use (owed Try.prog 2) 21 [0, 1] [AVal.ptr 0 1 0 0, AVal.agg [AVal.int IntKind.i64 s, AVal.int IntKind.i64 q]] [AObj.rows false 1 [[AVal.map 1]], AObj.mp true ents, AObj.rows true 2 [[AVal.int IntKind.i64 s, AVal.int IntKind.i64 q]], AObj.rows false 3 [[AVal.int IntKind.i64 e, AVal.int IntKind.i64 a, AVal.fsl b 2 rs none]]] [AVal.ptr 0 1 0 0, AVal.agg [AVal.int IntKind.i64 s, AVal.int IntKind.i64 q]] [AObj.rows false 1 [[AVal.map 1]], AObj.mp true ents] (AVal.bool g) [AObj.rows false 1 [[AVal.map 1]], AObj.mp true ents],
    true = true,
    true = true,
    true = true]) by kernel_rfl) (allP_of (⟨rfl, rfl, h1, rfl, rfl, rfl, rfl, ⟨h2, rfl, rfl, rfl⟩, rfl, rfl, rfl, rfl, rfl, rfl, rfl, rfl, rfl, rfl, rfl, rfl, rfl, rfl, rfl, rfl, rfl, rfl, rfl, rfl, rfl, rfl, rfl, rfl, rfl, rfl, rfl, rfl, rfl, rfl, rfl, rfl, rfl, rfl, rfl, rfl, rfl, rfl, rfl, rfl, rfl, rfl, rfl, rfl, rfl, rfl, rfl, h3, h4, rfl, rfl, rfl, rfl, rfl, rfl, rfl, rfl, rfl, rfl, rfl, rfl, rfl, rfl, rfl, rfl, rfl, rfl, rfl, rfl, rfl, rfl, h5, h6, h1, rfl, rfl, rfl, rfl, rfl, rfl, rfl, rfl, rfl, rfl, rfl, rfl, rfl, rfl, rfl, rfl, rfl, rfl, rfl, rfl, rfl, rfl, h7, rfl, rfl, h8, ⟨h9, rfl, rfl, rfl⟩, rfl, rfl, rfl, trivial⟩))).move ([0, 1]) (by kernel_rfl) (by kernel_rfl) (by kernel_rfl)


theorem findA_1 (s : Int) (q : Int) (ents : List (AVal × AVal)) (q0 : Int) (e0 : Int) (a0 : Int) (b0 : Bool) (rs0 : List (List AVal)) (g : Bool)
    (h1 : (!g) = true)
    (h2 : FOk Try.prog 21 [AVal.ptr 0 1 0 0, AVal.agg [AVal.int IntKind.i64 s, AVal.int IntKind.i64 q]] [AObj.rows false 1 [[AVal.map 1]], AObj.mp true ents] (AVal.bool g) [AObj.rows false 1 [[AVal.map 1]], AObj.mp true ents]) :
    FOk Try.prog 10 ([AVal.ptr 0 1 0 0, idv s q]) (Tab ents) (AVal.tuple [AVal.agg [AVal.int IntKind.i64 0, AVal.int IntKind.i64 0, AVal.fsl true 2 [] none], AVal.int IntKind.i64 1]) ([AObj.rows false 1 [[AVal.map 1]], AObj.mp true ents]) :=
  (evalF_ok followed Try.func10 (by kernel_rfl) (show evalF Try.prog Try.f10 ([AVal.ptr 0 1 0 0, idv s q]) (Tab ents) ([Dec.use [0, 1] [AVal.ptr 0 1 0 0, AVal.agg [AVal.int IntKind.i64 s, AVal.int IntKind.i64 q]] [AObj.rows false 1 [[AVal.map 1]], AObj.mp true ents] (AVal.bool g) [AObj.rows false 1 [[AVal.map 1]], AObj.mp true ents], Dec.br true]) = .ok (FRes.mk (AVal.tuple [AVal.agg [AVal.int IntKind.i64 0, AVal.int IntKind.i64 0, AVal.fsl true 2 [] none], AVal.int IntKind.i64 1]) ([AObj.rows false 1 [[AVal.map 1]], AObj.mp true ents, AObj.rows true 2 [[AVal.int IntKind.i64 s, AVal.int IntKind.i64 q]], AObj.rows false 3 [[AVal.int IntKind.i64 0, AVal.int IntKind.i64 0, AVal.fsl true 0 [] (some 0)]]]) [true = true,
    true = true,
    true = true,
    true = true,
    (!g) = true,
    Owed.use (owed Try.prog 2) 21 [0, 1] [AVal.ptr 0 1 0 0, AVal.agg [AVal.int IntKind.i64 s, AVal.int IntKind.i64 q]] [AObj.rows false 1 [[AVal.map 1]], AObj.mp true ents, AObj.rows true 2 [[AVal.int IntKind.i64 s, AVal.int IntKind.i64 q]], AObj.rows false 3 [[AVal.int IntKind.i64 0, AVal.int IntKind.i64 0, AVal.fsl true 0 [] (some 0)]]] [AVal.ptr 0 1 0 0, AVal.agg [AVal.int IntKind.i64 s, AVal.int IntKind.i64 q]] [AObj.rows false 1 [[AVal.map 1]], AObj.mp true ents] (AVal.bool g) [AObj.rows false 1 [[AVal.map 1]], AObj.mp true ents],
    true = true,
    true = true,
    true = true]) by kernel_rfl) (allP_of (⟨rfl, rfl, rfl, rfl, h1, ⟨h2, rfl, rfl, rfl⟩, rfl, rfl, rfl, trivial⟩))).move ([0, 1]) (by kernel_rfl) (by kernel_rfl) (by kernel_rfl)

theorem findA_2 (s : Int) (q : Int) (ents : List (AVal × AVal)) (q0 : Int) (e0 : Int) (a0 : Int) (b0 : Bool) (rs0 : List (List AVal)) (g : Bool)
    (h1 : decide (q0 < q) = true)
    (h2 : AVal.agg (reifyL [Kind.int IntKind.i64, Kind.int IntKind.i64, Kind.int IntKind.i64, Kind.slice 2] (AVal.cells (Option.getD (afind (AVal.int IntKind.i64 s) ents) (AVal.agg [AVal.int IntKind.i64 0, AVal.int IntKind.i64 0, AVal.int IntKind.i64 0, AVal.fsl true 0 [] (some 0)])))) = AVal.agg [AVal.int IntKind.i64 q0, AVal.int IntKind.i64 e0, AVal.int IntKind.i64 a0, AVal.fsl b0 2 rs0 none])
    (h3 : okCells Try.prog 63 (Option.getD (afind (AVal.int IntKind.i64 s) ents) (AVal.agg [AVal.int IntKind.i64 0, AVal.int IntKind.i64 0, AVal.int IntKind.i64 0, AVal.fsl true 0 [] (some 0)])) = true)
    (h4 : (List.all ents fun p => keyKind Try.prog 3 (Prod.fst p)) = true)
    (h5 : (!g) = false)
    (h6 : FOk Try.prog 21 [AVal.ptr 0 1 0 0, AVal.agg [AVal.int IntKind.i64 s, AVal.int IntKind.i64 q]] [AObj.rows false 1 [[AVal.map 1]], AObj.mp true ents] (AVal.bool g) [AObj.rows false 1 [[AVal.map 1]], AObj.mp true ents]) :
    FOk Try.prog 10 ([AVal.ptr 0 1 0 0, idv s q]) (Tab ents) (AVal.tuple [AVal.agg [AVal.int IntKind.i64 0, AVal.int IntKind.i64 0, AVal.fsl true 2 [] none], AVal.int IntKind.i64 3]) ([AObj.rows false 1 [[AVal.map 1]], AObj.mp true ents]) :=
  (evalF_ok followed Try.func10 (by kernel_rfl) (show evalF Try.prog Try.f10 ([AVal.ptr 0 1 0 0, idv s q]) (Tab ents) ([Dec.use [0, 1] [AVal.ptr 0 1 0 0, AVal.agg [AVal.int IntKind.i64 s, AVal.int IntKind.i64 q]] [AObj.rows false 1 [[AVal.map 1]], AObj.mp true ents] (AVal.bool g) [AObj.rows false 1 [[AVal.map 1]], AObj.mp true ents], Dec.br false, Dec.rw (last q0 e0 a0 b0 rs0), Dec.br true]) = .ok (FRes.mk (AVal.tuple [AVal.agg [AVal.int IntKind.i64 0, AVal.int IntKind.i64 0, AVal.fsl true 2 [] none], AVal.int IntKind.i64 3]) ([AObj.rows false 1 [[AVal.map 1]], AObj.mp true ents, AObj.rows true 2 [[AVal.int IntKind.i64 s, AVal.int IntKind.i64 q]], AObj.rows false 3 [[AVal.int IntKind.i64 0, AVal.int IntKind.i64 0, AVal.fsl true 0 [] (some 0)]], AObj.rows false 4 [[AVal.int IntKind.i64 q0, AVal.int IntKind.i64 e0, AVal.int IntKind.i64 a0, AVal.fsl b0 2 rs0 none]]]) [true = true,
    true = true,
    true = true,
    true = true,
    decide (q0 < q) = true,
    true = true,
    true = true,
    true = true,
    true = true,
    true = true,
    true = true,
    true = true,
    true = true,
    true = true,
    true = true,
    true = true,
    true = true,
    true = true,
    AVal.agg (reifyL [Kind.int IntKind.i64, Kind.int IntKind.i64, Kind.int IntKind.i64, Kind.slice 2] (AVal.cells (Option.getD (afind (AVal.int IntKind.i64 s) ents) (AVal.agg [AVal.int IntKind.i64 0, AVal.int IntKind.i64 0, AVal.int IntKind.i64 0, AVal.fsl true 0 [] (some 0)])))) = AVal.agg [AVal.int IntKind.i64 q0, AVal.int IntKind.i64 e0, AVal.int IntKind.i64 a0, AVal.fsl b0 2 rs0 none],
    okCells Try.prog 63 (Option.getD (afind (AVal.int IntKind.i64 s) ents) (AVal.agg [AVal.int IntKind.i64 0, AVal.int IntKind.i64 0, AVal.int IntKind.i64 0, AVal.fsl true 0 [] (some 0)])) = true,
    (List.all ents fun p => keyKind Try.prog 3 (Prod.fst p)) = true,
    true = true,
    true = true,
    true = true,
    true = true,
    true = true,
    true = true,
    true = true,
    true = true,
    true = true,
    true = true,
    true = true,
    true = true,
    true = true,
    true = true,
    true = true,
    true = true,
    true = true,
    true = true,
    true = true,
    true = true,
    true = true,
    true = true,
    (!g) = false,
    Owed.use (owed Try.prog 2) 21 [0, 1] [AVal.ptr 0 1 0 0, AVal.agg [AVal.int IntKind.i64 s, AVal.int IntKind.i64 q]] [AObj.rows false 1 [[AVal.map 1]], AObj.mp true ents, AObj.rows true 2 [[AVal.int IntKind.i64 s, AVal.int IntKind.i64 q]], AObj.rows false 3 [[AVal.int IntKind.i64 0, AVal.int IntKind.i64 0, AVal.fsl true 0 [] (some 0)]]] [AVal.ptr 0 1 0 0, AVal.agg [AVal.int IntKind.i64 s, AVal.int IntKind.i64 q]] [AObj.rows false 1 [[AVal.map 1]], AObj.mp true ents] (AVal.bool g) [AObj.rows false 1 [[AVal.map 1]], AObj.mp true ents],
    true = true,
    true = true,
    true = true]) by kernel_rfl) (allP_of (⟨rfl, rfl, rfl, rfl, h1, rfl, rfl, rfl, rfl, rfl, rfl, rfl, rfl, rfl, rfl, rfl, rfl, rfl, h2, h3, h4, rfl, rfl, rfl, rfl, rfl, rfl, rfl, rfl, rfl, rfl, rfl, rfl, rfl, rfl, rfl, rfl, rfl, rfl, rfl, rfl, rfl, rfl, h5, ⟨h6, rfl, rfl, rfl⟩, rfl, rfl, rfl, trivial⟩))).move ([0, 1]) (by kernel_rfl) (by kernel_rfl) (by kernel_rfl)

theorem findA_3 (s : Int) (q : Int) (ents : List (AVal × AVal)) (q0 : Int) (e0 : Int) (a0 : Int) (b0 : Bool) (rs0 : List (List AVal)) (g : Bool)
    (h1 : decide (q0 > q) = true)
    (h2 : decide (q0 < q) = false)
    (h3 : AVal.agg (reifyL [Kind.int IntKind.i64, Kind.int IntKind.i64, Kind.int IntKind.i64, Kind.slice 2] (AVal.cells (Option.getD (afind (AVal.int IntKind.i64 s) ents) (AVal.agg [AVal.int IntKind.i64 0, AVal.int IntKind.i64 0, AVal.int IntKind.i64 0, AVal.fsl true 0 [] (some 0)])))) = AVal.agg [AVal.int IntKind.i64 q0, AVal.int IntKind.i64 e0, AVal.int IntKind.i64 a0, AVal.fsl b0 2 rs0 none])
    (h4 : okCells Try.prog 63 (Option.getD (afind (AVal.int IntKind.i64 s) ents) (AVal.agg [AVal.int IntKind.i64 0, AVal.int IntKind.i64 0, AVal.int IntKind.i64 0, AVal.fsl true 0 [] (some 0)])) = true)
    (h5 : (List.all ents fun p => keyKind Try.prog 3 (Prod.fst p)) = true)
    (h6 : (!g) = false)
    (h7 : FOk Try.prog 21 [AVal.ptr 0 1 0 0, AVal.agg [AVal.int IntKind.i64 s, AVal.int IntKind.i64 q]] [AObj.rows false 1 [[AVal.map 1]], AObj.mp true ents] (AVal.bool g) [AObj.rows false 1 [[AVal.map 1]], AObj.mp true ents]) :
    FOk Try.prog 10 ([AVal.ptr 0 1 0 0, idv s q]) (Tab ents) (AVal.tuple [AVal.agg [AVal.int IntKind.i64 0, AVal.int IntKind.i64 0, AVal.fsl true 2 [] none], AVal.int IntKind.i64 110]) ([AObj.rows false 1 [[AVal.map 1]], AObj.mp true ents]) :=
  (evalF_ok followed Try.func10 (by kernel_rfl) (show evalF Try.prog Try.f10 ([AVal.ptr 0 1 0 0, idv s q]) (Tab ents) ([Dec.use [0, 1] [AVal.ptr 0 1 0 0, AVal.agg [AVal.int IntKind.i64 s, AVal.int IntKind.i64 q]] [AObj.rows false 1 [[AVal.map 1]], AObj.mp true ents] (AVal.bool g) [AObj.rows false 1 [[AVal.map 1]], AObj.mp true ents], Dec.br false, Dec.rw (last q0 e0 a0 b0 rs0), Dec.br false, Dec.br true]) = .ok (FRes.mk (AVal.tuple [AVal.agg [AVal.int IntKind.i64 0, AVal.int IntKind.i64 0, AVal.fsl true 2 [] none], AVal.int IntKind.i64 110]) ([AObj.rows false 1 [[AVal.map 1]], AObj.mp true ents, AObj.rows true 2 [[AVal.int IntKind.i64 s, AVal.int IntKind.i64 q]], AObj.rows false 3 [[AVal.int IntKind.i64 0, AVal.int IntKind.i64 0, AVal.fsl true 0 [] (some 0)]], AObj.rows false 4 [[AVal.int IntKind.i64 q0, AVal.int IntKind.i64 e0, AVal.int IntKind.i64 a0, AVal.fsl b0 2 rs0 none]]]) [true = true,
    true = true,
    true = true,
    true = true,
    decide (q0 > q) = true,
    true = true,
    true = true,
    true = true,
    true = true,
    true = true,
    decide (q0 < q) = false,
    true = true,
    true = true,
    true = true,
    true = true,
    true = true,
    true = true,
    true = true,
    true = true,
    true = true,
    true = true,
    true = true,
    true = true,
    true = true,
    AVal.agg (reifyL [Kind.int IntKind.i64, Kind.int IntKind.i64, Kind.int IntKind.i64, Kind.slice 2] (AVal.cells (Option.getD (afind (AVal.int IntKind.i64 s) ents) (AVal.agg [AVal.int IntKind.i64 0, AVal.int IntKind.i64 0, AVal.int IntKind.i64 0, AVal.fsl true 0 [] (some 0)])))) = AVal.agg [AVal.int IntKind.i64 q0, AVal.int IntKind.i64 e0, AVal.int IntKind.i64 a0, AVal.fsl b0 2 rs0 none],
    okCells Try.prog 63 (Option.getD (afind (AVal.int IntKind.i64 s) ents) (AVal.agg [AVal.int IntKind.i64 0, AVal.int IntKind.i64 0, AVal.int IntKind.i64 0, AVal.fsl true 0 [] (some 0)])) = true,
    (List.all ents fun p => keyKind Try.prog 3 (Prod.fst p)) = true,
    true = true,
    true = true,
    true = true,
    true = true,
    true = true,
    true = true,
    true = true,
    true = true,
    true = true,
    true = true,
    true = true,
    true = true,
    true = true,
    true = true,
    true = true,
    true = true,
    true = true,
    true = true,
    true = true,
    true = true,
    true = true,
    true = true,
    (!g) = false,
    Owed.use (owed Try.prog 2) 21 [0, 1] [AVal.ptr 0 1 0 0, AVal.agg [AVal.int IntKind.i64 s, AVal.int IntKind.i64 q]] [AObj.rows false 1 [[AVal.map 1]], AObj.mp true ents, AObj.rows true 2 [[AVal.int IntKind.i64 s, AVal.int IntKind.i64 q]], AObj.rows false 3 [[AVal.int IntKind.i64 0, AVal.int IntKind.i64 0, AVal.fsl true 0 [] (some 0)]]] [AVal.ptr 0 1 0 0, AVal.agg [AVal.int IntKind.i64 s, AVal.int IntKind.i64 q]] [AObj.rows false 1 [[AVal.map 1]], AObj.mp true ents] (AVal.bool g) [AObj.rows false 1 [[AVal.map 1]], AObj.mp true ents],
    true = true,
    true = true,
    true = true]) by kernel_rfl) (allP_of (⟨rfl, rfl, rfl, rfl, h1, rfl, rfl, rfl, rfl, rfl, h2, rfl, rfl, rfl, rfl, rfl, rfl, rfl, rfl, rfl, rfl, rfl, rfl, rfl, h3, h4, h5, rfl, rfl, rfl, rfl, rfl, rfl, rfl, rfl, rfl, rfl, rfl, rfl, rfl, rfl, rfl, rfl, rfl, rfl, rfl, rfl, rfl, rfl, h6, ⟨h7, rfl, rfl, rfl⟩, rfl, rfl, rfl, trivial⟩))).move ([0, 1]) (by kernel_rfl) (by kernel_rfl) (by kernel_rfl)

theorem findA_4 (s : Int) (q : Int) (ents : List (AVal × AVal)) (q0 : Int) (e0 : Int) (a0 : Int) (b0 : Bool) (rs0 : List (List AVal)) (g : Bool)
    (h1 : FOk Try.prog 22 [AVal.agg [AVal.int IntKind.i64 e0, AVal.int IntKind.i64 a0, AVal.fsl b0 2 rs0 none]] [] (AVal.agg [AVal.int IntKind.i64 e0, AVal.int IntKind.i64 a0, AVal.fsl b0 2 rs0 none]) [])
    (h2 : decide (q0 > q) = false)
    (h3 : decide (q0 < q) = false)
    (h4 : AVal.agg (reifyL [Kind.int IntKind.i64, Kind.int IntKind.i64, Kind.int IntKind.i64, Kind.slice 2] (AVal.cells (Option.getD (afind (AVal.int IntKind.i64 s) ents) (AVal.agg [AVal.int IntKind.i64 0, AVal.int IntKind.i64 0, AVal.int IntKind.i64 0, AVal.fsl true 0 [] (some 0)])))) = AVal.agg [AVal.int IntKind.i64 q0, AVal.int IntKind.i64 e0, AVal.int IntKind.i64 a0, AVal.fsl b0 2 rs0 none])
    (h5 : okCells Try.prog 63 (Option.getD (afind (AVal.int IntKind.i64 s) ents) (AVal.agg [AVal.int IntKind.i64 0, AVal.int IntKind.i64 0, AVal.int IntKind.i64 0, AVal.fsl true 0 [] (some 0)])) = true)
    (h6 : (List.all ents fun p => keyKind Try.prog 3 (Prod.fst p)) = true)
    (h7 : (!g) = false)
    (h8 : FOk Try.prog 21 [AVal.ptr 0 1 0 0, AVal.agg [AVal.int IntKind.i64 s, AVal.int IntKind.i64 q]] [AObj.rows false 1 [[AVal.map 1]], AObj.mp true ents] (AVal.bool g) [AObj.rows false 1 [[AVal.map 1]], AObj.mp true ents]) :
    FOk Try.prog 10 ([AVal.ptr 0 1 0 0, idv s q]) (Tab ents) (AVal.tuple [AVal.agg [AVal.int IntKind.i64 e0, AVal.int IntKind.i64 a0, AVal.fsl b0 2 rs0 none], AVal.int IntKind.i64 0]) ([AObj.rows false 1 [[AVal.map 1]], AObj.mp true ents]) :=
  (evalF_ok followed Try.func10 (by kernel_rfl) (show evalF Try.prog Try.f10 ([AVal.ptr 0 1 0 0, idv s q]) (Tab ents) ([Dec.use [0, 1] [AVal.ptr 0 1 0 0, AVal.agg [AVal.int IntKind.i64 s, AVal.int IntKind.i64 q]] [AObj.rows false 1 [[AVal.map 1]], AObj.mp true ents] (AVal.bool g) [AObj.rows false 1 [[AVal.map 1]], AObj.mp true ents], Dec.br false, Dec.rw (last q0 e0 a0 b0 rs0), Dec.br false, Dec.br false, Dec.use [] [AVal.agg [AVal.int IntKind.i64 e0, AVal.int IntKind.i64 a0, AVal.fsl b0 2 rs0 none]] [] (rep e0 a0 b0 rs0) []]) = .ok (FRes.mk (AVal.tuple [AVal.agg [AVal.int IntKind.i64 e0, AVal.int IntKind.i64 a0, AVal.fsl b0 2 rs0 none], AVal.int IntKind.i64 0]) ([AObj.rows false 1 [[AVal.map 1]], AObj.mp true ents, AObj.rows true 2 [[AVal.int IntKind.i64 s, AVal.int IntKind.i64 q]], AObj.rows false 3 [[AVal.int IntKind.i64 e0, AVal.int IntKind.i64 a0, AVal.fsl b0 2 rs0 none]], AObj.rows false 4 [[AVal.int IntKind.i64 q0, AVal.int IntKind.i64 e0, AVal.int IntKind.i64 a0, AVal.fsl b0 2 rs0 none]]]) [true = true,
    true = true,
    true = true,
    true = true,
    Owed.use (owed Try.prog 2) 22 [] [AVal.agg [AVal.int IntKind.i64 e0, AVal.int IntKind.i64 a0, AVal.fsl b0 2 rs0 none]] [AObj.rows false 1 [[AVal.map 1]], AObj.mp true ents, AObj.rows true 2 [[AVal.int IntKind.i64 s, AVal.int IntKind.i64 q]], AObj.rows false 3 [[AVal.int IntKind.i64 0, AVal.int IntKind.i64 0, AVal.fsl true 0 [] (some 0)]], AObj.rows false 4 [[AVal.int IntKind.i64 q0, AVal.int IntKind.i64 e0, AVal.int IntKind.i64 a0, AVal.fsl b0 2 rs0 none]]] [AVal.agg [AVal.int IntKind.i64 e0, AVal.int IntKind.i64 a0, AVal.fsl b0 2 rs0 none]] [] (AVal.agg [AVal.int IntKind.i64 e0, AVal.int IntKind.i64 a0, AVal.fsl b0 2 rs0 none]) [],
    true = true,
    true = true,
    decide (q0 > q) = false,
    true = true,
    true = true,
    true = true,
    true = true,
    true = true,
    decide (q0 < q) = false,
    true = true,
    true = true,
    true = true,
    true = true,
    true = true,
    true = true,
    true = true,
    true = true,
    true = true,
    true = true,
    true = true,
    true = true,
    true = true,
    AVal.agg (reifyL [Kind.int IntKind.i64, Kind.int IntKind.i64, Kind.int IntKind.i64, Kind.slice 2] (AVal.cells (Option.getD (afind (AVal.int IntKind.i64 s) ents) (AVal.agg [AVal.int IntKind.i64 0, AVal.int IntKind.i64 0, AVal.int IntKind.i64 0, AVal.fsl true 0 [] (some 0)])))) = AVal.agg [AVal.int IntKind.i64 q0, AVal.int IntKind.i64 e0, AVal.int IntKind.i64 a0, AVal.fsl b0 2 rs0 none],
    okCells Try.prog 63 (Option.getD (afind (AVal.int IntKind.i64 s) ents) (AVal.agg [AVal.int IntKind.i64 0, AVal.int IntKind.i64 0, AVal.int IntKind.i64 0, AVal.fsl true 0 [] (some 0)])) = true,
    (List.all ents fun p => keyKind Try.prog 3 (Prod.fst p)) = true,
    true = true,
    true = true,
    true = true,
    true = true,
    true = true,
    true = true,
    true = true,
    true = true,
    true = true,
    true = true,
    true = true,
    true = true,
    true = true,
    true = true,
    true = true,
    true = true,
    true = true,
    true = true,
    true = true,
    true = true,
    true = true,
    true = true,
    (!g) = false,
    Owed.use (owed Try.prog 2) 21 [0, 1] [AVal.ptr 0 1 0 0, AVal.agg [AVal.int IntKind.i64 s, AVal.int IntKind.i64 q]] [AObj.rows false 1 [[AVal.map 1]], AObj.mp true ents, AObj.rows true 2 [[AVal.int IntKind.i64 s, AVal.int IntKind.i64 q]], AObj.rows false 3 [[AVal.int IntKind.i64 0, AVal.int IntKind.i64 0, AVal.fsl true 0 [] (some 0)]]] [AVal.ptr 0 1 0 0, AVal.agg [AVal.int IntKind.i64 s, AVal.int IntKind.i64 q]] [AObj.rows false 1 [[AVal.map 1]], AObj.mp true ents] (AVal.bool g) [AObj.rows false 1 [[AVal.map 1]], AObj.mp true ents],
    true = true,
    true = true,
    true = true]) by kernel_rfl) (allP_of (⟨rfl, rfl, rfl, rfl, ⟨h1, rfl, rfl, rfl⟩, rfl, rfl, h2, rfl, rfl, rfl, rfl, rfl, h3, rfl, rfl, rfl, rfl, rfl, rfl, rfl, rfl, rfl, rfl, rfl, rfl, rfl, h4, h5, h6, rfl, rfl, rfl, rfl, rfl, rfl, rfl, rfl, rfl, rfl, rfl, rfl, rfl, rfl, rfl, rfl, rfl, rfl, rfl, rfl, rfl, rfl, h7, ⟨h8, rfl, rfl, rfl⟩, rfl, rfl, rfl, trivial⟩))).move ([0, 1]) (by kernel_rfl) (by kernel_rfl) (by kernel_rfl)


theorem len_1 (ents : List (AVal × AVal)) :
    FOk Try.prog 12 ([AVal.ptr 0 1 0 0]) (Tab ents) (AVal.int IntKind.i64 (↑(List.length ents) : Int)) ([AObj.rows false 1 [[AVal.map 1]], AObj.mp true ents]) :=
  (evalF_ok followed Try.func12 (by kernel_rfl) (show evalF Try.prog Try.f12 ([AVal.ptr 0 1 0 0]) (Tab ents) ([Dec.br false]) = .ok (FRes.mk (AVal.int IntKind.i64 (↑(List.length ents) : Int)) ([AObj.rows false 1 [[AVal.map 1]], AObj.mp true ents]) [true = true,
    true = true,
    false = false]) by kernel_rfl) (allP_of (⟨rfl, rfl, rfl, trivial⟩))).move ([0, 1]) (by kernel_rfl) (by kernel_rfl) (by kernel_rfl)



end Go.L11

import Derived.Test.YtpfnoilcmoaplaaProg
import Derived.Test.YtpfnoilcmoaplaaAbsG
section
set_option linter.unusedVariables false
set_option maxRecDepth 100000
namespace Go.L11
open Go Go.Abs Go.Proofs
instance : Glob := noGlob

theorem followed : Try.prog.follows .mixedOrders = true := by kernel_rfl

abbrev Tab (ents : List (AVal × AVal)) : AState := [.rows false 1 [[.map 1]], .mp true ents]
abbrev idv (s q : Int) : AVal := .agg [.int .i64 s, .int .i64 q]
abbrev rep (e a : Int) (b : Bool) (rs : List (List AVal)) : AVal := .agg [.int .i64 e, .int .i64 a, .fsl b 2 rs none]

theorem new_1 :
    FOk Try.prog 9 ([]) ([]) (AVal.ptr 0 1 0 0) ([AObj.rows false 1 [[AVal.map 1]], AObj.mp true []]) :=
  (evalF_ok followed Try.func9 (by kernel_rfl) (show evalF Try.prog Try.f9 ([]) ([]) ([]) = .ok (FRes.mk (AVal.ptr 1 1 0 0) ([AObj.mp true [], AObj.rows false 1 [[AVal.map 0]]]) []) by kernel_rfl) (allP_of (trivial))).move ([1, 0]) (by kernel_rfl) (by kernel_rfl) (by kernel_rfl)


theorem given_1 (s : Int) (q : Int) (ents : List (AVal × AVal))
    (h1 : decide (q ≥ 1) = true)
    (h2 : decide (s ≤ 2147483647) = true)
    (h3 : decide (s ≥ 0) = true) :
    FOk Try.prog 21 ([AVal.ptr 0 1 0 0, idv s q]) (Tab ents) (AVal.bool (decide (q ≤ 2147483647))) ([AObj.rows false 1 [[AVal.map 1]], AObj.mp true ents]) :=
  (evalF_ok followed Try.func21 (by kernel_rfl) (show evalF Try.prog Try.f21 ([AVal.ptr 0 1 0 0, idv s q]) (Tab ents) ([Dec.br true, Dec.br true, Dec.br true, Dec.br true, Dec.br true]) = .ok (FRes.mk (AVal.bool (decide (q ≤ 2147483647))) ([AObj.rows false 1 [[AVal.map 1]], AObj.mp true ents, AObj.rows true 2 [[AVal.int IntKind.i64 s, AVal.int IntKind.i64 q]]]) [true = true,
    true = true,
    true = true,
    decide (q ≥ 1) = true,
    true = true,
    true = true,
    true = true,
    decide (s ≤ 2147483647) = true,
    true = true,
    true = true,
    true = true,
    decide (s ≥ 0) = true,
    true = true,
    true = true,
    true = true,
    (!false) = true,
    true = true,
    true = true,
    (!false) = true]) by kernel_rfl) (allP_of (⟨rfl, rfl, rfl, h1, rfl, rfl, rfl, h2, rfl, rfl, rfl, h3, rfl, rfl, rfl, rfl, rfl, rfl, rfl, trivial⟩))).move ([0, 1]) (by kernel_rfl) (by kernel_rfl) (by kernel_rfl)

theorem given_2 (s : Int) (q : Int) (ents : List (AVal × AVal))
    (h1 : decide (q ≥ 1) = false)
    (h2 : decide (s ≤ 2147483647) = true)
    (h3 : decide (s ≥ 0) = true) :
    FOk Try.prog 21 ([AVal.ptr 0 1 0 0, idv s q]) (Tab ents) (AVal.bool false) ([AObj.rows false 1 [[AVal.map 1]], AObj.mp true ents]) :=
  (evalF_ok followed Try.func21 (by kernel_rfl) (show evalF Try.prog Try.f21 ([AVal.ptr 0 1 0 0, idv s q]) (Tab ents) ([Dec.br true, Dec.br true, Dec.br true, Dec.br true, Dec.br false]) = .ok (FRes.mk (AVal.bool false) ([AObj.rows false 1 [[AVal.map 1]], AObj.mp true ents, AObj.rows true 2 [[AVal.int IntKind.i64 s, AVal.int IntKind.i64 q]]]) [decide (q ≥ 1) = false,
    true = true,
    true = true,
    true = true,
    decide (s ≤ 2147483647) = true,
    true = true,
    true = true,
    true = true,
    decide (s ≥ 0) = true,
    true = true,
    true = true,
    true = true,
    (!false) = true,
    true = true,
    true = true,
    (!false) = true]) by kernel_rfl) (allP_of (⟨h1, rfl, rfl, rfl, h2, rfl, rfl, rfl, h3, rfl, rfl, rfl, rfl, rfl, rfl, rfl, trivial⟩))).move ([0, 1]) (by kernel_rfl) (by kernel_rfl) (by kernel_rfl)

theorem given_3 (s : Int) (q : Int) (ents : List (AVal × AVal))
    (h1 : decide (s ≤ 2147483647) = false)
    (h2 : decide (s ≥ 0) = true) :
    FOk Try.prog 21 ([AVal.ptr 0 1 0 0, idv s q]) (Tab ents) (AVal.bool false) ([AObj.rows false 1 [[AVal.map 1]], AObj.mp true ents]) :=
  (evalF_ok followed Try.func21 (by kernel_rfl) (show evalF Try.prog Try.f21 ([AVal.ptr 0 1 0 0, idv s q]) (Tab ents) ([Dec.br true, Dec.br true, Dec.br true, Dec.br false]) = .ok (FRes.mk (AVal.bool false) ([AObj.rows false 1 [[AVal.map 1]], AObj.mp true ents, AObj.rows true 2 [[AVal.int IntKind.i64 s, AVal.int IntKind.i64 q]]]) [decide (s ≤ 2147483647) = false,
    true = true,
    true = true,
    true = true,
    decide (s ≥ 0) = true,
    true = true,
    true = true,
    true = true,
    (!false) = true,
    true = true,
    true = true,
    (!false) = true]) by kernel_rfl) (allP_of (⟨h1, rfl, rfl, rfl, h2, rfl, rfl, rfl, rfl, rfl, rfl, rfl, trivial⟩))).move ([0, 1]) (by kernel_rfl) (by kernel_rfl) (by kernel_rfl)

theorem given_4 (s : Int) (q : Int) (ents : List (AVal × AVal))
    (h1 : decide (s ≥ 0) = false) :
    FOk Try.prog 21 ([AVal.ptr 0 1 0 0, idv s q]) (Tab ents) (AVal.bool false) ([AObj.rows false 1 [[AVal.map 1]], AObj.mp true ents]) :=
  (evalF_ok followed Try.func21 (by kernel_rfl) (show evalF Try.prog Try.f21 ([AVal.ptr 0 1 0 0, idv s q]) (Tab ents) ([Dec.br true, Dec.br true, Dec.br false]) = .ok (FRes.mk (AVal.bool false) ([AObj.rows false 1 [[AVal.map 1]], AObj.mp true ents, AObj.rows true 2 [[AVal.int IntKind.i64 s, AVal.int IntKind.i64 q]]]) [decide (s ≥ 0) = false,
    true = true,
    true = true,
    true = true,
    (!false) = true,
    true = true,
    true = true,
    (!false) = true]) by kernel_rfl) (allP_of (⟨h1, rfl, rfl, rfl, rfl, rfl, rfl, rfl, trivial⟩))).move ([0, 1]) (by kernel_rfl) (by kernel_rfl) (by kernel_rfl)


theorem clone_1 (b : Bool) (rs : List (List AVal))
    (h1 : b = true) :
    FOk Try.prog 29 ([AVal.fsl b 2 rs none]) ([]) (AVal.fsl true 2 [] none) ([]) :=
  (evalF_ok followed Try.func29 (by kernel_rfl) (show evalF Try.prog Try.f29 ([AVal.fsl b 2 rs none]) ([]) ([Dec.br true]) = .ok (FRes.mk (AVal.fsl true 2 [] none) ([]) [b = true]) by kernel_rfl) (allP_of (⟨h1, trivial⟩))).move ([]) (by kernel_rfl) (by kernel_rfl) (by kernel_rfl)

theorem clone_2 (b : Bool) (rs : List (List AVal))
    (h1 : decide ((0 + List.length rs) * 32 ≤ 140737488355328 ∧ 0 + List.length rs ≤ 9223372036854775807) = true)
    (h2 : (List.all rs fun r => List.all r oneCell) = true)
    (h3 : b = false) :
    FOk Try.prog 29 ([AVal.fsl b 2 rs none]) ([]) (AVal.slc false 0 2 0 (0 + List.length rs) none) ([AObj.rows true 2 rs]) :=
  (evalF_ok followed Try.func29 (by kernel_rfl) (show evalF Try.prog Try.f29 ([AVal.fsl b 2 rs none]) ([]) ([Dec.br false]) = .ok (FRes.mk (AVal.slc false 1 2 0 (0 + List.length rs) none) ([AObj.dead, AObj.rows true 2 rs]) [true = true,
    decide ((0 + List.length rs) * 32 ≤ 140737488355328 ∧ 0 + List.length rs ≤ 9223372036854775807) = true,
    (List.all rs fun r => List.all r oneCell) = true,
    b = false]) by kernel_rfl) (allP_of (⟨rfl, h1, h2, h3, trivial⟩))).move ([1]) (by kernel_rfl) (by kernel_rfl) (by kernel_rfl)


theorem own_1 (e : Int) (a : Int) (b : Bool) (rs : List (List AVal))
    (h1 : FOk Try.prog 29 [AVal.fsl b 2 rs none] [] (AVal.fsl b 2 rs none) []) :
    FOk Try.prog 22 ([rep e a b rs]) ([]) (AVal.agg [AVal.int IntKind.i64 e, AVal.int IntKind.i64 a, AVal.fsl b 2 rs none]) ([]) :=
  (evalF_ok followed Try.func22 (by kernel_rfl) (show evalF Try.prog Try.f22 ([rep e a b rs]) ([]) ([Dec.use [] [AVal.fsl b 2 rs none] [] (AVal.fsl b 2 rs none) []]) = .ok (FRes.mk (AVal.agg [AVal.int IntKind.i64 e, AVal.int IntKind.i64 a, AVal.fsl b 2 rs none]) ([AObj.rows false 3 [[AVal.int IntKind.i64 e, AVal.int IntKind.i64 a, AVal.fsl b 2 rs none]], AObj.rows false 3 [[AVal.int IntKind.i64 e, AVal.int IntKind.i64 a, AVal.fsl b 2 rs none]]]) [true = true,
    true = true,
    true = true,
    true = true,
    true = true,
    true = true,
    true = true,
    true = true,
    Owed.use (owed Try.prog 0) 29 [] [AVal.fsl b 2 rs none] [AObj.rows false 3 [[AVal.int IntKind.i64 e, AVal.int IntKind.i64 a, AVal.fsl b 2 rs none]], AObj.rows false 3 [[AVal.int IntKind.i64 0, AVal.int IntKind.i64 0, AVal.fsl true 0 [] (some 0)]]] [AVal.fsl b 2 rs none] [] (AVal.fsl b 2 rs none) [],
    true = true,
    true = true]) by kernel_rfl) (allP_of (⟨rfl, rfl, rfl, rfl, rfl, rfl, rfl, rfl, ⟨h1, rfl, rfl, rfl⟩, rfl, rfl, trivial⟩))).move ([]) (by kernel_rfl) (by kernel_rfl) (by kernel_rfl)



abbrev last (q e a : Int) (b : Bool) (rs : List (List AVal)) : AVal := .agg [.int .i64 q, .int .i64 e, .int .i64 a, .fsl b 2 rs none]
abbrev zlast : AVal := .agg [.int .i64 0, .int .i64 0, .int .i64 0, .fsl true 0 [] (some 0)]

theorem putA_1 (s : Int) (q : Int) (e : Int) (a : Int) (b : Bool) (rs : List (List AVal)) (ents : List (AVal × AVal)) (q0 : Int) (e0 : Int) (a0 : Int) (b0 : Bool) (rs0 : List (List AVal)) (g : Bool) (th : Bool)
    (h1 : (!g) = true)
    (h2 : FOk Try.prog 21 [AVal.ptr 0 1 0 0, AVal.agg [AVal.int IntKind.i64 s, AVal.int IntKind.i64 q]] [AObj.rows false 1 [[AVal.map 1]], AObj.mp true ents] (AVal.bool g) [AObj.rows false 1 [[AVal.map 1]], AObj.mp true ents]) :
    FOk Try.prog 11 ([AVal.ptr 0 1 0 0, idv s q, rep e a b rs]) (Tab ents) (AVal.int IntKind.i64 1) ([AObj.rows false 1 [[AVal.map 1]], AObj.mp true ents]) :=
  (evalF_ok followed Try.func11 (by kernel_rfl) (show evalF Try.prog Try.f11 ([AVal.ptr 0 1 0 0, idv s q, rep e a b rs]) (Tab ents) ([Dec.use [0, 1] [AVal.ptr 0 1 0 0, AVal.agg [AVal.int IntKind.i64 s, AVal.int IntKind.i64 q]] [AObj.rows false 1 [[AVal.map 1]], AObj.mp true ents] (AVal.bool g) [AObj.rows false 1 [[AVal.map 1]], AObj.mp true ents], Dec.br true]) = .ok (FRes.mk (AVal.int IntKind.i64 1) ([AObj.rows false 1 [[AVal.map 1]], AObj.mp true ents, AObj.rows true 2 [[AVal.int IntKind.i64 s, AVal.int IntKind.i64 q]], AObj.rows false 3 [[AVal.int IntKind.i64 e, AVal.int IntKind.i64 a, AVal.fsl b 2 rs none]]]) [(!g) = true,
    Owed.use (owed Try.prog 2) 21 [0, 1] [AVal.ptr 0 1 0 0, AVal.agg [AVal.int IntKind.i64 s, AVal.int IntKind.i64 q]] [AObj.rows false 1 [[AVal.map 1]], AObj.mp true ents, AObj.rows true 2 [[AVal.int IntKind.i64 s, AVal.int IntKind.i64 q]], AObj.rows false 3 [[AVal.int IntKind.i64 e, AVal.int IntKind.i64 a, AVal.fsl b 2 rs none]]] [AVal.ptr 0 1 0 0, AVal.agg [AVal.int IntKind.i64 s, AVal.int IntKind.i64 q]] [AObj.rows false 1 [[AVal.map 1]], AObj.mp true ents] (AVal.bool g) [AObj.rows false 1 [[AVal.map 1]], AObj.mp true ents],
    true = true,
    true = true,
    true = true]) by kernel_rfl) (allP_of (⟨h1, ⟨h2, rfl, rfl, rfl⟩, rfl, rfl, rfl, trivial⟩))).move ([0, 1]) (by kernel_rfl) (by kernel_rfl) (by kernel_rfl)

theorem putA_2 (s : Int) (q : Int) (e : Int) (a : Int) (b : Bool) (rs : List (List AVal)) (ents : List (AVal × AVal)) (q0 : Int) (e0 : Int) (a0 : Int) (b0 : Bool) (rs0 : List (List AVal)) (g : Bool) (th : Bool)
    (h1 : decide ((↑(List.length rs) : Int) > 64) = true)
    (h2 : (!g) = false)
    (h3 : FOk Try.prog 21 [AVal.ptr 0 1 0 0, AVal.agg [AVal.int IntKind.i64 s, AVal.int IntKind.i64 q]] [AObj.rows false 1 [[AVal.map 1]], AObj.mp true ents] (AVal.bool g) [AObj.rows false 1 [[AVal.map 1]], AObj.mp true ents]) :
    FOk Try.prog 11 ([AVal.ptr 0 1 0 0, idv s q, rep e a b rs]) (Tab ents) (AVal.int IntKind.i64 1) ([AObj.rows false 1 [[AVal.map 1]], AObj.mp true ents]) :=
  (evalF_ok followed Try.func11 (by kernel_rfl) (show evalF Try.prog Try.f11 ([AVal.ptr 0 1 0 0, idv s q, rep e a b rs]) (Tab ents) ([Dec.use [0, 1] [AVal.ptr 0 1 0 0, AVal.agg [AVal.int IntKind.i64 s, AVal.int IntKind.i64 q]] [AObj.rows false 1 [[AVal.map 1]], AObj.mp true ents] (AVal.bool g) [AObj.rows false 1 [[AVal.map 1]], AObj.mp true ents], Dec.br false, Dec.br true]) = .ok (FRes.mk (AVal.int IntKind.i64 1) ([AObj.rows false 1 [[AVal.map 1]], AObj.mp true ents, AObj.rows true 2 [[AVal.int IntKind.i64 s, AVal.int IntKind.i64 q]], AObj.rows false 3 [[AVal.int IntKind.i64 e, AVal.int IntKind.i64 a, AVal.fsl b 2 rs none]]]) [decide ((↑(List.length rs) : Int) > 64) = true,
    true = true,
    true = true,
    (!g) = false,
    Owed.use (owed Try.prog 2) 21 [0, 1] [AVal.ptr 0 1 0 0, AVal.agg [AVal.int IntKind.i64 s, AVal.int IntKind.i64 q]] [AObj.rows false 1 [[AVal.map 1]], AObj.mp true ents, AObj.rows true 2 [[AVal.int IntKind.i64 s, AVal.int IntKind.i64 q]], AObj.rows false 3 [[AVal.int IntKind.i64 e, AVal.int IntKind.i64 a, AVal.fsl b 2 rs none]]] [AVal.ptr 0 1 0 0, AVal.agg [AVal.int IntKind.i64 s, AVal.int IntKind.i64 q]] [AObj.rows false 1 [[AVal.map 1]], AObj.mp true ents] (AVal.bool g) [AObj.rows false 1 [[AVal.map 1]], AObj.mp true ents],
    true = true,
    true = true,
    true = true]) by kernel_rfl) (allP_of (⟨h1, rfl, rfl, h2, ⟨h3, rfl, rfl, rfl⟩, rfl, rfl, rfl, trivial⟩))).move ([0, 1]) (by kernel_rfl) (by kernel_rfl) (by kernel_rfl)

theorem putA_3 (s : Int) (q : Int) (e : Int) (a : Int) (b : Bool) (rs : List (List AVal)) (ents : List (AVal × AVal)) (q0 : Int) (e0 : Int) (a0 : Int) (b0 : Bool) (rs0 : List (List AVal)) (g : Bool) (th : Bool)
    (h1 : decide (q0 ≥ q) = true)
    (h2 : AVal.tuple [AVal.agg (reifyL [Kind.int IntKind.i64, Kind.int IntKind.i64, Kind.int IntKind.i64, Kind.slice 2] (AVal.cells (Option.getD (afind (AVal.int IntKind.i64 s) ents) (AVal.agg [AVal.int IntKind.i64 0, AVal.int IntKind.i64 0, AVal.int IntKind.i64 0, AVal.fsl true 0 [] (some 0)])))), AVal.bool (Option.isSome (afind (AVal.int IntKind.i64 s) ents))] = AVal.tuple [AVal.agg [AVal.int IntKind.i64 q0, AVal.int IntKind.i64 e0, AVal.int IntKind.i64 a0, AVal.fsl b0 2 rs0 none], AVal.bool th])
    (h3 : okCells Try.prog 63 (Option.getD (afind (AVal.int IntKind.i64 s) ents) (AVal.agg [AVal.int IntKind.i64 0, AVal.int IntKind.i64 0, AVal.int IntKind.i64 0, AVal.fsl true 0 [] (some 0)])) = true)
    (h4 : (List.all ents fun p => keyKind Try.prog 3 (Prod.fst p)) = true)
    (h5 : decide ((↑(List.length rs) : Int) > 64) = false)
    (h6 : (!g) = false)
    (h7 : FOk Try.prog 21 [AVal.ptr 0 1 0 0, AVal.agg [AVal.int IntKind.i64 s, AVal.int IntKind.i64 q]] [AObj.rows false 1 [[AVal.map 1]], AObj.mp true ents] (AVal.bool g) [AObj.rows false 1 [[AVal.map 1]], AObj.mp true ents]) :
    FOk Try.prog 11 ([AVal.ptr 0 1 0 0, idv s q, rep e a b rs]) (Tab ents) (AVal.int IntKind.i64 110) ([AObj.rows false 1 [[AVal.map 1]], AObj.mp true ents]) :=
  (evalF_ok followed Try.func11 (by kernel_rfl) (show evalF Try.prog Try.f11 ([AVal.ptr 0 1 0 0, idv s q, rep e a b rs]) (Tab ents) ([Dec.use [0, 1] [AVal.ptr 0 1 0 0, AVal.agg [AVal.int IntKind.i64 s, AVal.int IntKind.i64 q]] [AObj.rows false 1 [[AVal.map 1]], AObj.mp true ents] (AVal.bool g) [AObj.rows false 1 [[AVal.map 1]], AObj.mp true ents], Dec.br false, Dec.br false, Dec.rw (AVal.tuple [last q0 e0 a0 b0 rs0, AVal.bool th]), Dec.br true]) = .ok (FRes.mk (AVal.int IntKind.i64 110) ([AObj.rows false 1 [[AVal.map 1]], AObj.mp true ents, AObj.rows true 2 [[AVal.int IntKind.i64 s, AVal.int IntKind.i64 q]], AObj.rows false 3 [[AVal.int IntKind.i64 e, AVal.int IntKind.i64 a, AVal.fsl b 2 rs none]], AObj.rows false 4 [[AVal.int IntKind.i64 q0, AVal.int IntKind.i64 e0, AVal.int IntKind.i64 a0, AVal.fsl b0 2 rs0 none]]]) [decide (q0 ≥ q) = true,
    true = true,
    true = true,
    true = true,
    true = true,
    true = true,
    true = true,
    true = true,
    true = true,
    true = true,
    true = true,
    true = true,
    true = true,
    true = true,
    true = true,
    true = true,
    true = true,
    true = true,
    true = true,
    true = true,
    true = true,
    true = true,
    true = true,
    AVal.tuple [AVal.agg (reifyL [Kind.int IntKind.i64, Kind.int IntKind.i64, Kind.int IntKind.i64, Kind.slice 2] (AVal.cells (Option.getD (afind (AVal.int IntKind.i64 s) ents) (AVal.agg [AVal.int IntKind.i64 0, AVal.int IntKind.i64 0, AVal.int IntKind.i64 0, AVal.fsl true 0 [] (some 0)])))), AVal.bool (Option.isSome (afind (AVal.int IntKind.i64 s) ents))] = AVal.tuple [AVal.agg [AVal.int IntKind.i64 q0, AVal.int IntKind.i64 e0, AVal.int IntKind.i64 a0, AVal.fsl b0 2 rs0 none], AVal.bool th],
    okCells Try.prog 63 (Option.getD (afind (AVal.int IntKind.i64 s) ents) (AVal.agg [AVal.int IntKind.i64 0, AVal.int IntKind.i64 0, AVal.int IntKind.i64 0, AVal.fsl true 0 [] (some 0)])) = true,
    (List.all ents fun p => keyKind Try.prog 3 (Prod.fst p)) = true,
    true = true,
    true = true,
    true = true,
    true = true,
    true = true,
    true = true,
    true = true,
    true = true,
    true = true,
    true = true,
    true = true,
    true = true,
    true = true,
    true = true,
    true = true,
    true = true,
    true = true,
    true = true,
    true = true,
    true = true,
    true = true,
    true = true,
    decide ((↑(List.length rs) : Int) > 64) = false,
    true = true,
    true = true,
    (!g) = false,
    Owed.use (owed Try.prog 2) 21 [0, 1] [AVal.ptr 0 1 0 0, AVal.agg [AVal.int IntKind.i64 s, AVal.int IntKind.i64 q]] [AObj.rows false 1 [[AVal.map 1]], AObj.mp true ents, AObj.rows true 2 [[AVal.int IntKind.i64 s, AVal.int IntKind.i64 q]], AObj.rows false 3 [[AVal.int IntKind.i64 e, AVal.int IntKind.i64 a, AVal.fsl b 2 rs none]]] [AVal.ptr 0 1 0 0, AVal.agg [AVal.int IntKind.i64 s, AVal.int IntKind.i64 q]] [AObj.rows false 1 [[AVal.map 1]], AObj.mp true ents] (AVal.bool g) [AObj.rows false 1 [[AVal.map 1]], AObj.mp true ents],
    true = true,
    true = true,
    true = true]) by kernel_rfl) (allP_of (⟨h1, rfl, rfl, rfl, rfl, rfl, rfl, rfl, rfl, rfl, rfl, rfl, rfl, rfl, rfl, rfl, rfl, rfl, rfl, rfl, rfl, rfl, rfl, h2, h3, h4, rfl, rfl, rfl, rfl, rfl, rfl, rfl, rfl, rfl, rfl, rfl, rfl, rfl, rfl, rfl, rfl, rfl, rfl, rfl, rfl, rfl, rfl, h5, rfl, rfl, h6, ⟨h7, rfl, rfl, rfl⟩, rfl, rfl, rfl, trivial⟩))).move ([0, 1]) (by kernel_rfl) (by kernel_rfl) (by kernel_rfl)

theorem putA_4 (s : Int) (q : Int) (e : Int) (a : Int) (b : Bool) (rs : List (List AVal)) (ents : List (AVal × AVal)) (q0 : Int) (e0 : Int) (a0 : Int) (b0 : Bool) (rs0 : List (List AVal)) (g : Bool) (th : Bool)
    (h1 : decide ((↑(List.length ents) : Int) ≥ 64) = true)
    (h2 : (!th) = true)
    (h3 : decide (q0 ≥ q) = false)
    (h4 : AVal.tuple [AVal.agg (reifyL [Kind.int IntKind.i64, Kind.int IntKind.i64, Kind.int IntKind.i64, Kind.slice 2] (AVal.cells (Option.getD (afind (AVal.int IntKind.i64 s) ents) (AVal.agg [AVal.int IntKind.i64 0, AVal.int IntKind.i64 0, AVal.int IntKind.i64 0, AVal.fsl true 0 [] (some 0)])))), AVal.bool (Option.isSome (afind (AVal.int IntKind.i64 s) ents))] = AVal.tuple [AVal.agg [AVal.int IntKind.i64 q0, AVal.int IntKind.i64 e0, AVal.int IntKind.i64 a0, AVal.fsl b0 2 rs0 none], AVal.bool th])
    (h5 : okCells Try.prog 63 (Option.getD (afind (AVal.int IntKind.i64 s) ents) (AVal.agg [AVal.int IntKind.i64 0, AVal.int IntKind.i64 0, AVal.int IntKind.i64 0, AVal.fsl true 0 [] (some 0)])) = true)
    (h6 : (List.all ents fun p => keyKind Try.prog 3 (Prod.fst p)) = true)
    (h7 : decide ((↑(List.length rs) : Int) > 64) = false)
    (h8 : (!g) = false)
    (h9 : FOk Try.prog 21 [AVal.ptr 0 1 0 0, AVal.agg [AVal.int IntKind.i64 s, AVal.int IntKind.i64 q]] [AObj.rows false 1 [[AVal.map 1]], AObj.mp true ents] (AVal.bool g) [AObj.rows false 1 [[AVal.map 1]], AObj.mp true ents]) :
    FOk Try.prog 11 ([AVal.ptr 0 1 0 0, idv s q, rep e a b rs]) (Tab ents) (AVal.int IntKind.i64 2) ([AObj.rows false 1 [[AVal.map 1]], AObj.mp true ents]) :=
  (evalF_ok followed Try.func11 (by kernel_rfl) (show evalF Try.prog Try.f11 ([AVal.ptr 0 1 0 0, idv s q, rep e a b rs]) (Tab ents) ([Dec.use [0, 1] [AVal.ptr 0 1 0 0, AVal.agg [AVal.int IntKind.i64 s, AVal.int IntKind.i64 q]] [AObj.rows false 1 [[AVal.map 1]], AObj.mp true ents] (AVal.bool g) [AObj.rows false 1 [[AVal.map 1]], AObj.mp true ents], Dec.br false, Dec.br false, Dec.rw (AVal.tuple [last q0 e0 a0 b0 rs0, AVal.bool th]), Dec.br false, Dec.br true, Dec.br true]) = .ok (FRes.mk (AVal.int IntKind.i64 2) ([AObj.rows false 1 [[AVal.map 1]], AObj.mp true ents, AObj.rows true 2 [[AVal.int IntKind.i64 s, AVal.int IntKind.i64 q]], AObj.rows false 3 [[AVal.int IntKind.i64 e, AVal.int IntKind.i64 a, AVal.fsl b 2 rs none]], AObj.rows false 4 [[AVal.int IntKind.i64 q0, AVal.int IntKind.i64 e0, AVal.int IntKind.i64 a0, AVal.fsl b0 2 rs0 none]]]) [decide ((↑(List.length ents) : Int) ≥ 64) = true,
    true = true,
    true = true,
    (!th) = true,
    decide (q0 ≥ q) = false,
    true = true,
    true = true,
    true = true,
    true = true,
    true = true,
    true = true,
    true = true,
    true = true,
    true = true,
    true = true,
    true = true,
    true = true,
    true = true,
    true = true,
    true = true,
    true = true,
    true = true,
    true = true,
    true = true,
    true = true,
    true = true,
    true = true,
    AVal.tuple [AVal.agg (reifyL [Kind.int IntKind.i64, Kind.int IntKind.i64, Kind.int IntKind.i64, Kind.slice 2] (AVal.cells (Option.getD (afind (AVal.int IntKind.i64 s) ents) (AVal.agg [AVal.int IntKind.i64 0, AVal.int IntKind.i64 0, AVal.int IntKind.i64 0, AVal.fsl true 0 [] (some 0)])))), AVal.bool (Option.isSome (afind (AVal.int IntKind.i64 s) ents))] = AVal.tuple [AVal.agg [AVal.int IntKind.i64 q0, AVal.int IntKind.i64 e0, AVal.int IntKind.i64 a0, AVal.fsl b0 2 rs0 none], AVal.bool th],
    okCells Try.prog 63 (Option.getD (afind (AVal.int IntKind.i64 s) ents) (AVal.agg [AVal.int IntKind.i64 0, AVal.int IntKind.i64 0, AVal.int IntKind.i64 0, AVal.fsl true 0 [] (some 0)])) = true,
    (List.all ents fun p => keyKind Try.prog 3 (Prod.fst p)) = true,
    true = true,
    true = true,
    true = true,
    true = true,
    true = true,
    true = true,
    true = true,
    true = true,
    true = true,
    true = true,
    true = true,
    true = true,
    true = true,
    true = true,
    true = true,
    true = true,
    true = true,
    true = true,
    true = true,
    true = true,
    true = true,
    true = true,
    decide ((↑(List.length rs) : Int) > 64) = false,
    true = true,
    true = true,
    (!g) = false,
    Owed.use (owed Try.prog 2) 21 [0, 1] [AVal.ptr 0 1 0 0, AVal.agg [AVal.int IntKind.i64 s, AVal.int IntKind.i64 q]] [AObj.rows false 1 [[AVal.map 1]], AObj.mp true ents, AObj.rows true 2 [[AVal.int IntKind.i64 s, AVal.int IntKind.i64 q]], AObj.rows false 3 [[AVal.int IntKind.i64 e, AVal.int IntKind.i64 a, AVal.fsl b 2 rs none]]] [AVal.ptr 0 1 0 0, AVal.agg [AVal.int IntKind.i64 s, AVal.int IntKind.i64 q]] [AObj.rows false 1 [[AVal.map 1]], AObj.mp true ents] (AVal.bool g) [AObj.rows false 1 [[AVal.map 1]], AObj.mp true ents],
    true = true,
    true = true,
    true = true]) by kernel_rfl) (allP_of (⟨h1, rfl, rfl, h2, h3, rfl, rfl, rfl, rfl, rfl, rfl, rfl, rfl, rfl, rfl, rfl, rfl, rfl, rfl, rfl, rfl, rfl, rfl, rfl, rfl, rfl, rfl, h4, h5, h6, rfl, rfl, rfl, rfl, rfl, rfl, rfl, rfl, rfl, rfl, rfl, rfl, rfl, rfl, rfl, rfl, rfl, rfl, rfl, rfl, rfl, rfl, h7, rfl, rfl, h8, ⟨h9, rfl, rfl, rfl⟩, rfl, rfl, rfl, trivial⟩))).move ([0, 1]) (by kernel_rfl) (by kernel_rfl) (by kernel_rfl)

theorem putA_5 (s : Int) (q : Int) (e : Int) (a : Int) (b : Bool) (rs : List (List AVal)) (ents : List (AVal × AVal)) (q0 : Int) (e0 : Int) (a0 : Int) (b0 : Bool) (rs0 : List (List AVal)) (g : Bool) (th : Bool)
    (h1 : (List.all ents fun p => keyKind Try.prog 3 (Prod.fst p)) = true)
    (h2 : FOk Try.prog 22 [AVal.agg [AVal.int IntKind.i64 e, AVal.int IntKind.i64 a, AVal.fsl b 2 rs none]] [] (AVal.agg [AVal.int IntKind.i64 e, AVal.int IntKind.i64 a, AVal.fsl b 2 rs none]) [])
    (h3 : decide ((↑(List.length ents) : Int) ≥ 64) = false)
    (h4 : (!th) = true)
    (h5 : decide (q0 ≥ q) = false)
    (h6 : AVal.tuple [AVal.agg (reifyL [Kind.int IntKind.i64, Kind.int IntKind.i64, Kind.int IntKind.i64, Kind.slice 2] (AVal.cells (Option.getD (afind (AVal.int IntKind.i64 s) ents) (AVal.agg [AVal.int IntKind.i64 0, AVal.int IntKind.i64 0, AVal.int IntKind.i64 0, AVal.fsl true 0 [] (some 0)])))), AVal.bool (Option.isSome (afind (AVal.int IntKind.i64 s) ents))] = AVal.tuple [AVal.agg [AVal.int IntKind.i64 q0, AVal.int IntKind.i64 e0, AVal.int IntKind.i64 a0, AVal.fsl b0 2 rs0 none], AVal.bool th])
    (h7 : okCells Try.prog 63 (Option.getD (afind (AVal.int IntKind.i64 s) ents) (AVal.agg [AVal.int IntKind.i64 0, AVal.int IntKind.i64 0, AVal.int IntKind.i64 0, AVal.fsl true 0 [] (some 0)])) = true)
    (h8 : decide ((↑(List.length rs) : Int) > 64) = false)
    (h9 : (!g) = false)
    (h10 : FOk Try.prog 21 [AVal.ptr 0 1 0 0, AVal.agg [AVal.int IntKind.i64 s, AVal.int IntKind.i64 q]] [AObj.rows false 1 [[AVal.map 1]], AObj.mp true ents] (AVal.bool g) [AObj.rows false 1 [[AVal.map 1]], AObj.mp true ents]) :
    FOk Try.prog 11 ([AVal.ptr 0 1 0 0, idv s q, rep e a b rs]) (Tab ents) (AVal.int IntKind.i64 0) ([AObj.rows false 1 [[AVal.map 1]], AObj.mp true (aput (AVal.int IntKind.i64 s) (AVal.agg [AVal.int IntKind.i64 q, AVal.int IntKind.i64 e, AVal.int IntKind.i64 a, AVal.fsl b 2 rs none]) ents)]) :=
  (evalF_ok followed Try.func11 (by kernel_rfl) (show evalF Try.prog Try.f11 ([AVal.ptr 0 1 0 0, idv s q, rep e a b rs]) (Tab ents) ([Dec.use [0, 1] [AVal.ptr 0 1 0 0, AVal.agg [AVal.int IntKind.i64 s, AVal.int IntKind.i64 q]] [AObj.rows false 1 [[AVal.map 1]], AObj.mp true ents] (AVal.bool g) [AObj.rows false 1 [[AVal.map 1]], AObj.mp true ents], Dec.br false, Dec.br false, Dec.rw (AVal.tuple [last q0 e0 a0 b0 rs0, AVal.bool th]), Dec.br false, Dec.br true, Dec.br false, Dec.use [] [AVal.agg [AVal.int IntKind.i64 e, AVal.int IntKind.i64 a, AVal.fsl b 2 rs none]] [] (rep e a b rs) []]) = .ok (FRes.mk (AVal.int IntKind.i64 0) ([AObj.rows false 1 [[AVal.map 1]], AObj.mp true (aput (AVal.int IntKind.i64 s) (AVal.agg [AVal.int IntKind.i64 q, AVal.int IntKind.i64 e, AVal.int IntKind.i64 a, AVal.fsl b 2 rs none]) ents), AObj.rows true 2 [[AVal.int IntKind.i64 s, AVal.int IntKind.i64 q]], AObj.rows false 3 [[AVal.int IntKind.i64 e, AVal.int IntKind.i64 a, AVal.fsl b 2 rs none]], AObj.rows false 4 [[AVal.int IntKind.i64 q0, AVal.int IntKind.i64 e0, AVal.int IntKind.i64 a0, AVal.fsl b0 2 rs0 none]]]) [true = true,
    true = true,
    (List.all ents fun p => keyKind Try.prog 3 (Prod.fst p)) = true,
    true = true,
    true = true,
    true = true,
    true = true,
    Owed.use (owed Try.prog 2) 22 [] [AVal.agg [AVal.int IntKind.i64 e, AVal.int IntKind.i64 a, AVal.fsl b 2 rs none]] [AObj.rows false 1 [[AVal.map 1]], AObj.mp true ents, AObj.rows true 2 [[AVal.int IntKind.i64 s, AVal.int IntKind.i64 q]], AObj.rows false 3 [[AVal.int IntKind.i64 e, AVal.int IntKind.i64 a, AVal.fsl b 2 rs none]], AObj.rows false 4 [[AVal.int IntKind.i64 q0, AVal.int IntKind.i64 e0, AVal.int IntKind.i64 a0, AVal.fsl b0 2 rs0 none]]] [AVal.agg [AVal.int IntKind.i64 e, AVal.int IntKind.i64 a, AVal.fsl b 2 rs none]] [] (AVal.agg [AVal.int IntKind.i64 e, AVal.int IntKind.i64 a, AVal.fsl b 2 rs none]) [],
    true = true,
    true = true,
    true = true,
    true = true,
    true = true,
    true = true,
    true = true,
    true = true,
    true = true,
    true = true,
    true = true,
    true = true,
    true = true,
    true = true,
    true = true,
    true = true,
    true = true,
    true = true,
    true = true,
    true = true,
    true = true,
    true = true,
    true = true,
    true = true,
    true = true,
    true = true,
    true = true,
    true = true,
    true = true,
    true = true,
    true = true,
    true = true,
    true = true,
    true = true,
    true = true,
    true = true,
    true = true,
    true = true,
    true = true,
    true = true,
    true = true,
    true = true,
    true = true,
    true = true,
    true = true,
    true = true,
    true = true,
    decide ((↑(List.length ents) : Int) ≥ 64) = false,
    true = true,
    true = true,
    (!th) = true,
    decide (q0 ≥ q) = false,
    true = true,
    true = true,
    true = true,
    true = true,
    true = true,
    true = true,
    true = true,
    true = true,
    true = true,
    true = true,
    true = true,
    true = true,
    true = true,
    true = true,
    true = true,
    true = true,
    true = true,
    true = true,
    true = true,
    true = true,
    true = true,
    true = true,
    AVal.tuple [AVal.agg (reifyL [Kind.int IntKind.i64, Kind.int IntKind.i64, Kind.int IntKind.i64, Kind.slice 2] (AVal.cells (Option.getD (afind (AVal.int IntKind.i64 s) ents) (AVal.agg [AVal.int IntKind.i64 0, AVal.int IntKind.i64 0, AVal.int IntKind.i64 0, AVal.fsl true 0 [] (some 0)])))), AVal.bool (Option.isSome (afind (AVal.int IntKind.i64 s) ents))] = AVal.tuple [AVal.agg [AVal.int IntKind.i64 q0, AVal.int IntKind.i64 e0, AVal.int IntKind.i64 a0, AVal.fsl b0 2 rs0 none], AVal.bool th],
    okCells Try.prog 63 (Option.getD (afind (AVal.int IntKind.i64 s) ents) (AVal.agg [AVal.int IntKind.i64 0, AVal.int IntKind.i64 0, AVal.int IntKind.i64 0, AVal.fsl true 0 [] (some 0)])) = true,
    (List.all ents fun p => keyKind Try.prog 3 (Prod.fst p)) = true,
    true = true,
    true = true,
    true = true,
    true = true,
    true = true,
    true = true,
    true = true,
    true = true,
    true = true,
    true = true,
    true = true,
    true = true,
    true = true,
    true = true,
    true = true,
    true = true,
    true = true,
    true = true,
    true = true,
    true = true,
    true = true,
    true = true,
    decide ((↑(List.length rs) : Int) > 64) = false,
    true = true,
    true = true,
    (!g) = false,
    Owed.use (owed Try.prog 2) 21 [0, 1] [AVal.ptr 0 1 0 0, AVal.agg [AVal.int IntKind.i64 s, AVal.int IntKind.i64 q]] [AObj.rows false 1 [[AVal.map 1]], AObj.mp true ents, AObj.rows true 2 [[AVal.int IntKind.i64 s, AVal.int IntKind.i64 q]], AObj.rows false 3 [[AVal.int IntKind.i64 e, AVal.int IntKind.i64 a, AVal.fsl b 2 rs none]]] [AVal.ptr 0 1 0 0, AVal.agg [AVal.int IntKind.i64 s, AVal.int IntKind.i64 q]] [AObj.rows false 1 [[AVal.map 1]], AObj.mp true ents] (AVal.bool g) [AObj.rows false 1 [[AVal.map 1]], AObj.mp true ents],
    true = true,
    true = true,
    true = true]) by kernel_rfl) (allP_of (⟨rfl, rfl, h1, rfl, rfl, rfl, rfl, ⟨h2, rfl, rfl, rfl⟩, rfl, rfl, rfl, rfl, rfl, rfl, rfl, rfl, rfl, rfl, rfl, rfl, rfl, rfl, rfl, rfl, rfl, rfl, rfl, rfl, rfl, rfl, rfl, rfl, rfl, rfl, rfl, rfl, rfl, rfl, rfl, rfl, rfl, rfl, rfl, rfl, rfl, rfl, rfl, rfl, rfl, rfl, rfl, rfl, rfl, rfl, rfl, h3, rfl, rfl, h4, h5, rfl, rfl, rfl, rfl, rfl, rfl, rfl, rfl, rfl, rfl, rfl, rfl, rfl, rfl, rfl, rfl, rfl, rfl, rfl, rfl, rfl, rfl, h6, h7, h1, rfl, rfl, rfl, rfl, rfl, rfl, rfl, rfl, rfl, rfl, rfl, rfl, rfl, rfl, rfl, rfl, rfl, rfl, rfl, rfl, rfl, rfl, h8, rfl, rfl, h9, ⟨h10, rfl, rfl, rfl⟩, rfl, rfl, rfl, trivial⟩))).move ([0, 1]) (by kernel_rfl) (by kernel_rfl) (by kernel_rfl)

theorem putA_6 (s : Int) (q : Int) (e : Int) (a : Int) (b : Bool) (rs : List (List AVal)) (ents : List (AVal × AVal)) (q0 : Int) (e0 : Int) (a0 : Int) (b0 : Bool) (rs0 : List (List AVal)) (g : Bool) (th : Bool)
    (h1 : (List.all ents fun p => keyKind Try.prog 3 (Prod.fst p)) = true)
    (h2 : FOk Try.prog 22 [AVal.agg [AVal.int IntKind.i64 e, AVal.int IntKind.i64 a, AVal.fsl b 2 rs none]] [] (AVal.agg [AVal.int IntKind.i64 e, AVal.int IntKind.i64 a, AVal.fsl b 2 rs none]) [])
    (h3 : (!th) = false)
    (h4 : decide (q0 ≥ q) = false)
    (h5 : AVal.tuple [AVal.agg (reifyL [Kind.int IntKind.i64, Kind.int IntKind.i64, Kind.int IntKind.i64, Kind.slice 2] (AVal.cells (Option.getD (afind (AVal.int IntKind.i64 s) ents) (AVal.agg [AVal.int IntKind.i64 0, AVal.int IntKind.i64 0, AVal.int IntKind.i64 0, AVal.fsl true 0 [] (some 0)])))), AVal.bool (Option.isSome (afind (AVal.int IntKind.i64 s) ents))] = AVal.tuple [AVal.agg [AVal.int IntKind.i64 q0, AVal.int IntKind.i64 e0, AVal.int IntKind.i64 a0, AVal.fsl b0 2 rs0 none], AVal.bool th])
    (h6 : okCells Try.prog 63 (Option.getD (afind (AVal.int IntKind.i64 s) ents) (AVal.agg [AVal.int IntKind.i64 0, AVal.int IntKind.i64 0, AVal.int IntKind.i64 0, AVal.fsl true 0 [] (some 0)])) = true)
    (h7 : decide ((↑(List.length rs) : Int) > 64) = false)
    (h8 : (!g) = false)
    (h9 : FOk Try.prog 21 [AVal.ptr 0 1 0 0, AVal.agg [AVal.int IntKind.i64 s, AVal.int IntKind.i64 q]] [AObj.rows false 1 [[AVal.map 1]], AObj.mp true ents] (AVal.bool g) [AObj.rows false 1 [[AVal.map 1]], AObj.mp true ents]) :
    FOk Try.prog 11 ([AVal.ptr 0 1 0 0, idv s q, rep e a b rs]) (Tab ents) (AVal.int IntKind.i64 0) ([AObj.rows false 1 [[AVal.map 1]], AObj.mp true (aput (AVal.int IntKind.i64 s) (AVal.agg [AVal.int IntKind.i64 q, AVal.int IntKind.i64 e, AVal.int IntKind.i64 a, AVal.fsl b 2 rs none]) ents)]) :=
  (evalF_ok followed Try.func11 (by kernel_rfl) (show evalF Try.prog Try.f11 ([AVal.ptr 0 1 0 0, idv s q, rep e a b rs]) (Tab ents) ([Dec.use [0, 1] [AVal.ptr 0 1 0 0, AVal.agg [AVal.int IntKind.i64 s, AVal.int IntKind.i64 q]] [AObj.rows false 1 [[AVal.map 1]], AObj.mp true ents] (AVal.bool g) [AObj.rows false 1 [[AVal.map 1]], AObj.mp true ents], Dec.br false, Dec.br false, Dec.rw (AVal.tuple [last q0 e0 a0 b0 rs0, AVal.bool th]), Dec.br false, Dec.br false, Dec.use [] [AVal.agg [AVal.int IntKind.i64 e, AVal.int IntKind.i64 a, AVal.fsl b 2 rs none]] [] (rep e a b rs) []]) = .ok (FRes.mk (AVal.int IntKind.i64 0) ([AObj.rows false 1 [[AVal.map 1]], AObj.mp true (aput (AVal.int IntKind.i64 s) (AVal.agg [AVal.int IntKind.i64 q, AVal.int IntKind.i64 e, AVal.int IntKind.i64 a, AVal.fsl b 2 rs none]) ents), AObj.rows true 2 [[AVal.int IntKind.i64 s, AVal.int IntKind.i64 q]], AObj.rows false 3 [[AVal.int IntKind.i64 e, AVal.int IntKind.i64 a, AVal.fsl b 2 rs none]], AObj.rows false 4 [[AVal.int IntKind.i64 q0, AVal.int IntKind.i64 e0, AVal.int IntKind.i64 a0, AVal.fsl b0 2 rs0 none]]]) [true = true,
    true = true,
    (List.all ents fun p => keyKind Try.prog 3 (Prod.fst p)) = true,
    true = true,
    true = true,
    true = true,
    true = true,
    Owed.use (owed Try.prog 2) 22 [] [AVal.agg [AVal.int IntKind.i64 e, AVal.int IntKind.i64 a, AVal.fsl b 2 rs none]] [AObj.rows false 1 [[AVal.map 1]], AObj.mp true ents, AObj.rows true 2 [[AVal.int IntKind.i64 s, AVal.int IntKind.i64 q]], AObj.rows false 3 [[AVal.int IntKind.i64 e, AVal.int IntKind.i64 a, AVal.fsl b 2 rs none]], AObj.rows false 4 [[AVal.int IntKind.i64 q0, AVal.int IntKind.i64 e0, AVal.int IntKind.i64 a0, AVal.fsl b0 2 rs0 none]]] [AVal.agg [AVal.int IntKind.i64 e, AVal.int IntKind.i64 a, AVal.fsl b 2 rs none]] [] (AVal.agg [AVal.int IntKind.i64 e, AVal.int IntKind.i64 a, AVal.fsl b 2 rs none]) [],
    true = true,
    true = true,
    true = true,
    true = true,
    true = true,
    true = true,
    true = true,
    true = true,
    true = true,
    true = true,
    true = true,
    true = true,
    true = true,
    true = true,
    true = true,
    true = true,
    true = true,
    true = true,
    true = true,
    true = true,
    true = true,
    true = true,
    true = true,
    true = true,
    true = true,
    true = true,
    true = true,
    true = true,
    true = true,
    true = true,
    true = true,
    true = true,
    true = true,
    true = true,
    true = true,
    true = true,
    true = true,
    true = true,
    true = true,
    true = true,
    true = true,
    true = true,
    true = true,
    true = true,
    true = true,
    true = true,
    true = true,
    (!th) = false,
    decide (q0 ≥ q) = false,
    true = true,
    true = true,
    true = true,
    true = true,
    true = true,
    true = true,
    true = true,
    true = true,
    true = true,
    true = true,
    true = true,
    true = true,
    true = true,
    true = true,
    true = true,
    true = true,
    true = true,
    true = true,
    true = true,
    true = true,
    true = true,
    true = true,
    AVal.tuple [AVal.agg (reifyL [Kind.int IntKind.i64, Kind.int IntKind.i64, Kind.int IntKind.i64, Kind.slice 2] (AVal.cells (Option.getD (afind (AVal.int IntKind.i64 s) ents) (AVal.agg [AVal.int IntKind.i64 0, AVal.int IntKind.i64 0, AVal.int IntKind.i64 0, AVal.fsl true 0 [] (some 0)])))), AVal.bool (Option.isSome (afind (AVal.int IntKind.i64 s) ents))] = AVal.tuple [AVal.agg [AVal.int IntKind.i64 q0, AVal.int IntKind.i64 e0, AVal.int IntKind.i64 a0, AVal.fsl b0 2 rs0 none], AVal.bool th],
    okCells Try.prog 63 (Option.getD (afind (AVal.int IntKind.i64 s) ents) (AVal.agg [AVal.int IntKind.i64 0, AVal.int IntKind.i64 0, AVal.int IntKind.i64 0, AVal.fsl true 0 [] (some 0)])) = true,
    (List.all ents fun p => keyKind Try.prog 3 (Prod.fst p)) = true,
    true = true,
    true = true,
    true = true,
    true = true,
    true = true,
    true = true,
    true = true,
    true = true,
    true = true,
    true = true,
    true = true,
    true = true,
    true = true,
    true = true,
    true = true,
    true = true,
    true = true,
    true = true,
    true = true,
    true = true,
    true = true,
    true = true,
    decide ((↑(List.length rs) : Int) > 64) = false,
    true = true,
    true = true,
    (!g) = false,
    Owed.use (owed Try.prog 2) 21 [0, 1] [AVal.ptr 0 1 0 0, AVal.agg [AVal.int IntKind.i64 s, AVal.int IntKind.i64 q]] [AObj.rows false 1 [[AVal.map 1]], AObj.mp true ents, AObj.rows true 2 [[AVal.int IntKind.i64 s, AVal.int IntKind.i64 q]], AObj.rows false 3 [[AVal.int IntKind.i64 e, AVal.int IntKind.i64 a, AVal.fsl b 2 rs none]]] [AVal.ptr 0 1 0 0, AVal.agg [AVal.int IntKind.i64 s, AVal.int IntKind.i64 q]] [AObj.rows false 1 [[AVal.map 1]], AObj.mp true ents] (AVal.bool g) [AObj.rows false 1 [[AVal.map 1]], AObj.mp true ents],
    true = true,
    true = true,
    true = true]) by kernel_rfl) (allP_of (⟨rfl, rfl, h1, rfl, rfl, rfl, rfl, ⟨h2, rfl, rfl, rfl⟩, rfl, rfl, rfl, rfl, rfl, rfl, rfl, rfl, rfl, rfl, rfl, rfl, rfl, rfl, rfl, rfl, rfl, rfl, rfl, rfl, rfl, rfl, rfl, rfl, rfl, rfl, rfl, rfl, rfl, rfl, rfl, rfl, rfl, rfl, rfl, rfl, rfl, rfl, rfl, rfl, rfl, rfl, rfl, rfl, rfl, rfl, rfl, h3, h4, rfl, rfl, rfl, rfl, rfl, rfl, rfl, rfl, rfl, rfl, rfl, rfl, rfl, rfl, rfl, rfl, rfl, rfl, rfl, rfl, rfl, rfl, h5, h6, h1, rfl, rfl, rfl, rfl, rfl, rfl, rfl, rfl, rfl, rfl, rfl, rfl, rfl, rfl, rfl, rfl, rfl, rfl, rfl, rfl, rfl, rfl, h7, rfl, rfl, h8, ⟨h9, rfl, rfl, rfl⟩, rfl, rfl, rfl, trivial⟩))).move ([0, 1]) (by kernel_rfl) (by kernel_rfl) (by kernel_rfl)


theorem findA_1 (s : Int) (q : Int) (ents : List (AVal × AVal)) (q0 : Int) (e0 : Int) (a0 : Int) (b0 : Bool) (rs0 : List (List AVal)) (g : Bool)
    (h1 : (!g) = true)
    (h2 : FOk Try.prog 21 [AVal.ptr 0 1 0 0, AVal.agg [AVal.int IntKind.i64 s, AVal.int IntKind.i64 q]] [AObj.rows false 1 [[AVal.map 1]], AObj.mp true ents] (AVal.bool g) [AObj.rows false 1 [[AVal.map 1]], AObj.mp true ents]) :
    FOk Try.prog 10 ([AVal.ptr 0 1 0 0, idv s q]) (Tab ents) (AVal.tuple [AVal.agg [AVal.int IntKind.i64 0, AVal.int IntKind.i64 0, AVal.fsl true 2 [] none], AVal.int IntKind.i64 1]) ([AObj.rows false 1 [[AVal.map 1]], AObj.mp true ents]) :=
  (evalF_ok followed Try.func10 (by kernel_rfl) (show evalF Try.prog Try.f10 ([AVal.ptr 0 1 0 0, idv s q]) (Tab ents) ([Dec.use [0, 1] [AVal.ptr 0 1 0 0, AVal.agg [AVal.int IntKind.i64 s, AVal.int IntKind.i64 q]] [AObj.rows false 1 [[AVal.map 1]], AObj.mp true ents] (AVal.bool g) [AObj.rows false 1 [[AVal.map 1]], AObj.mp true ents], Dec.br true]) = .ok (FRes.mk (AVal.tuple [AVal.agg [AVal.int IntKind.i64 0, AVal.int IntKind.i64 0, AVal.fsl true 2 [] none], AVal.int IntKind.i64 1]) ([AObj.rows false 1 [[AVal.map 1]], AObj.mp true ents, AObj.rows true 2 [[AVal.int IntKind.i64 s, AVal.int IntKind.i64 q]], AObj.rows false 3 [[AVal.int IntKind.i64 0, AVal.int IntKind.i64 0, AVal.fsl true 0 [] (some 0)]]]) [true = true,
    true = true,
    true = true,
    true = true,
    (!g) = true,
    Owed.use (owed Try.prog 2) 21 [0, 1] [AVal.ptr 0 1 0 0, AVal.agg [AVal.int IntKind.i64 s, AVal.int IntKind.i64 q]] [AObj.rows false 1 [[AVal.map 1]], AObj.mp true ents, AObj.rows true 2 [[AVal.int IntKind.i64 s, AVal.int IntKind.i64 q]], AObj.rows false 3 [[AVal.int IntKind.i64 0, AVal.int IntKind.i64 0, AVal.fsl true 0 [] (some 0)]]] [AVal.ptr 0 1 0 0, AVal.agg [AVal.int IntKind.i64 s, AVal.int IntKind.i64 q]] [AObj.rows false 1 [[AVal.map 1]], AObj.mp true ents] (AVal.bool g) [AObj.rows false 1 [[AVal.map 1]], AObj.mp true ents],
    true = true,
    true = true,
    true = true]) by kernel_rfl) (allP_of (⟨rfl, rfl, rfl, rfl, h1, ⟨h2, rfl, rfl, rfl⟩, rfl, rfl, rfl, trivial⟩))).move ([0, 1]) (by kernel_rfl) (by kernel_rfl) (by kernel_rfl)

theorem findA_2 (s : Int) (q : Int) (ents : List (AVal × AVal)) (q0 : Int) (e0 : Int) (a0 : Int) (b0 : Bool) (rs0 : List (List AVal)) (g : Bool)
    (h1 : decide (q0 < q) = true)
    (h2 : AVal.agg (reifyL [Kind.int IntKind.i64, Kind.int IntKind.i64, Kind.int IntKind.i64, Kind.slice 2] (AVal.cells (Option.getD (afind (AVal.int IntKind.i64 s) ents) (AVal.agg [AVal.int IntKind.i64 0, AVal.int IntKind.i64 0, AVal.int IntKind.i64 0, AVal.fsl true 0 [] (some 0)])))) = AVal.agg [AVal.int IntKind.i64 q0, AVal.int IntKind.i64 e0, AVal.int IntKind.i64 a0, AVal.fsl b0 2 rs0 none])
    (h3 : okCells Try.prog 63 (Option.getD (afind (AVal.int IntKind.i64 s) ents) (AVal.agg [AVal.int IntKind.i64 0, AVal.int IntKind.i64 0, AVal.int IntKind.i64 0, AVal.fsl true 0 [] (some 0)])) = true)
    (h4 : (List.all ents fun p => keyKind Try.prog 3 (Prod.fst p)) = true)
    (h5 : (!g) = false)
    (h6 : FOk Try.prog 21 [AVal.ptr 0 1 0 0, AVal.agg [AVal.int IntKind.i64 s, AVal.int IntKind.i64 q]] [AObj.rows false 1 [[AVal.map 1]], AObj.mp true ents] (AVal.bool g) [AObj.rows false 1 [[AVal.map 1]], AObj.mp true ents]) :
    FOk Try.prog 10 ([AVal.ptr 0 1 0 0, idv s q]) (Tab ents) (AVal.tuple [AVal.agg [AVal.int IntKind.i64 0, AVal.int IntKind.i64 0, AVal.fsl true 2 [] none], AVal.int IntKind.i64 3]) ([AObj.rows false 1 [[AVal.map 1]], AObj.mp true ents]) :=
  (evalF_ok followed Try.func10 (by kernel_rfl) (show evalF Try.prog Try.f10 ([AVal.ptr 0 1 0 0, idv s q]) (Tab ents) ([Dec.use [0, 1] [AVal.ptr 0 1 0 0, AVal.agg [AVal.int IntKind.i64 s, AVal.int IntKind.i64 q]] [AObj.rows false 1 [[AVal.map 1]], AObj.mp true ents] (AVal.bool g) [AObj.rows false 1 [[AVal.map 1]], AObj.mp true ents], Dec.br false, Dec.rw (last q0 e0 a0 b0 rs0), Dec.br true]) = .ok (FRes.mk (AVal.tuple [AVal.agg [AVal.int IntKind.i64 0, AVal.int IntKind.i64 0, AVal.fsl true 2 [] none], AVal.int IntKind.i64 3]) ([AObj.rows false 1 [[AVal.map 1]], AObj.mp true ents, AObj.rows true 2 [[AVal.int IntKind.i64 s, AVal.int IntKind.i64 q]], AObj.rows false 3 [[AVal.int IntKind.i64 0, AVal.int IntKind.i64 0, AVal.fsl true 0 [] (some 0)]], AObj.rows false 4 [[AVal.int IntKind.i64 q0, AVal.int IntKind.i64 e0, AVal.int IntKind.i64 a0, AVal.fsl b0 2 rs0 none]]]) [true = true,
    true = true,
    true = true,
    true = true,
    decide (q0 < q) = true,
    true = true,
    true = true,
    true = true,
    true = true,
    true = true,
    true = true,
    true = true,
    true = true,
    true = true,
    true = true,
    true = true,
    true = true,
    true = true,
    AVal.agg (reifyL [Kind.int IntKind.i64, Kind.int IntKind.i64, Kind.int IntKind.i64, Kind.slice 2] (AVal.cells (Option.getD (afind (AVal.int IntKind.i64 s) ents) (AVal.agg [AVal.int IntKind.i64 0, AVal.int IntKind.i64 0, AVal.int IntKind.i64 0, AVal.fsl true 0 [] (some 0)])))) = AVal.agg [AVal.int IntKind.i64 q0, AVal.int IntKind.i64 e0, AVal.int IntKind.i64 a0, AVal.fsl b0 2 rs0 none],
    okCells Try.prog 63 (Option.getD (afind (AVal.int IntKind.i64 s) ents) (AVal.agg [AVal.int IntKind.i64 0, AVal.int IntKind.i64 0, AVal.int IntKind.i64 0, AVal.fsl true 0 [] (some 0)])) = true,
    (List.all ents fun p => keyKind Try.prog 3 (Prod.fst p)) = true,
    true = true,
    true = true,
    true = true,
    true = true,
    true = true,
    true = true,
    true = true,
    true = true,
    true = true,
    true = true,
    true = true,
    true = true,
    true = true,
    true = true,
    true = true,
    true = true,
    true = true,
    true = true,
    true = true,
    true = true,
    true = true,
    true = true,
    (!g) = false,
    Owed.use (owed Try.prog 2) 21 [0, 1] [AVal.ptr 0 1 0 0, AVal.agg [AVal.int IntKind.i64 s, AVal.int IntKind.i64 q]] [AObj.rows false 1 [[AVal.map 1]], AObj.mp true ents, AObj.rows true 2 [[AVal.int IntKind.i64 s, AVal.int IntKind.i64 q]], AObj.rows false 3 [[AVal.int IntKind.i64 0, AVal.int IntKind.i64 0, AVal.fsl true 0 [] (some 0)]]] [AVal.ptr 0 1 0 0, AVal.agg [AVal.int IntKind.i64 s, AVal.int IntKind.i64 q]] [AObj.rows false 1 [[AVal.map 1]], AObj.mp true ents] (AVal.bool g) [AObj.rows false 1 [[AVal.map 1]], AObj.mp true ents],
    true = true,
    true = true,
    true = true]) by kernel_rfl) (allP_of (⟨rfl, rfl, rfl, rfl, h1, rfl, rfl, rfl, rfl, rfl, rfl, rfl, rfl, rfl, rfl, rfl, rfl, rfl, h2, h3, h4, rfl, rfl, rfl, rfl, rfl, rfl, rfl, rfl, rfl, rfl, rfl, rfl, rfl, rfl, rfl, rfl, rfl, rfl, rfl, rfl, rfl, rfl, h5, ⟨h6, rfl, rfl, rfl⟩, rfl, rfl, rfl, trivial⟩))).move ([0, 1]) (by kernel_rfl) (by kernel_rfl) (by kernel_rfl)

theorem findA_3 (s : Int) (q : Int) (ents : List (AVal × AVal)) (q0 : Int) (e0 : Int) (a0 : Int) (b0 : Bool) (rs0 : List (List AVal)) (g : Bool)
    (h1 : decide (q0 > q) = true)
    (h2 : decide (q0 < q) = false)
    (h3 : AVal.agg (reifyL [Kind.int IntKind.i64, Kind.int IntKind.i64, Kind.int IntKind.i64, Kind.slice 2] (AVal.cells (Option.getD (afind (AVal.int IntKind.i64 s) ents) (AVal.agg [AVal.int IntKind.i64 0, AVal.int IntKind.i64 0, AVal.int IntKind.i64 0, AVal.fsl true 0 [] (some 0)])))) = AVal.agg [AVal.int IntKind.i64 q0, AVal.int IntKind.i64 e0, AVal.int IntKind.i64 a0, AVal.fsl b0 2 rs0 none])
    (h4 : okCells Try.prog 63 (Option.getD (afind (AVal.int IntKind.i64 s) ents) (AVal.agg [AVal.int IntKind.i64 0, AVal.int IntKind.i64 0, AVal.int IntKind.i64 0, AVal.fsl true 0 [] (some 0)])) = true)
    (h5 : (List.all ents fun p => keyKind Try.prog 3 (Prod.fst p)) = true)
    (h6 : (!g) = false)
    (h7 : FOk Try.prog 21 [AVal.ptr 0 1 0 0, AVal.agg [AVal.int IntKind.i64 s, AVal.int IntKind.i64 q]] [AObj.rows false 1 [[AVal.map 1]], AObj.mp true ents] (AVal.bool g) [AObj.rows false 1 [[AVal.map 1]], AObj.mp true ents]) :
    FOk Try.prog 10 ([AVal.ptr 0 1 0 0, idv s q]) (Tab ents) (AVal.tuple [AVal.agg [AVal.int IntKind.i64 0, AVal.int IntKind.i64 0, AVal.fsl true 2 [] none], AVal.int IntKind.i64 110]) ([AObj.rows false 1 [[AVal.map 1]], AObj.mp true ents]) :=
  (evalF_ok followed Try.func10 (by kernel_rfl) (show evalF Try.prog Try.f10 ([AVal.ptr 0 1 0 0, idv s q]) (Tab ents) ([Dec.use [0, 1] [AVal.ptr 0 1 0 0, AVal.agg [AVal.int IntKind.i64 s, AVal.int IntKind.i64 q]] [AObj.rows false 1 [[AVal.map 1]], AObj.mp true ents] (AVal.bool g) [AObj.rows false 1 [[AVal.map 1]], AObj.mp true ents], Dec.br false, Dec.rw (last q0 e0 a0 b0 rs0), Dec.br false, Dec.br true]) = .ok (FRes.mk (AVal.tuple [AVal.agg [AVal.int IntKind.i64 0, AVal.int IntKind.i64 0, AVal.fsl true 2 [] none], AVal.int IntKind.i64 110]) ([AObj.rows false 1 [[AVal.map 1]], AObj.mp true ents, AObj.rows true 2 [[AVal.int IntKind.i64 s, AVal.int IntKind.i64 q]], AObj.rows false 3 [[AVal.int IntKind.i64 0, AVal.int IntKind.i64 0, AVal.fsl true 0 [] (some 0)]], AObj.rows false 4 [[AVal.int IntKind.i64 q0, AVal.int IntKind.i64 e0, AVal.int IntKind.i64 a0, AVal.fsl b0 2 rs0 none]]]) [true = true,
    true = true,
    true = true,
    true = true,
    decide (q0 > q) = true,
    true = true,
    true = true,
    true = true,
    true = true,
    true = true,
    decide (q0 < q) = false,
    true = true,
    true = true,
    true = true,
    true = true,
    true = true,
    true = true,
    true = true,
    true = true,
    true = true,
    true = true,
    true = true,
    true = true,
    true = true,
    AVal.agg (reifyL [Kind.int IntKind.i64, Kind.int IntKind.i64, Kind.int IntKind.i64, Kind.slice 2] (AVal.cells (Option.getD (afind (AVal.int IntKind.i64 s) ents) (AVal.agg [AVal.int IntKind.i64 0, AVal.int IntKind.i64 0, AVal.int IntKind.i64 0, AVal.fsl true 0 [] (some 0)])))) = AVal.agg [AVal.int IntKind.i64 q0, AVal.int IntKind.i64 e0, AVal.int IntKind.i64 a0, AVal.fsl b0 2 rs0 none],
    okCells Try.prog 63 (Option.getD (afind (AVal.int IntKind.i64 s) ents) (AVal.agg [AVal.int IntKind.i64 0, AVal.int IntKind.i64 0, AVal.int IntKind.i64 0, AVal.fsl true 0 [] (some 0)])) = true,
    (List.all ents fun p => keyKind Try.prog 3 (Prod.fst p)) = true,
    true = true,
    true = true,
    true = true,
    true = true,
    true = true,
    true = true,
    true = true,
    true = true,
    true = true,
    true = true,
    true = true,
    true = true,
    true = true,
    true = true,
    true = true,
    true = true,
    true = true,
    true = true,
    true = true,
    true = true,
    true = true,
    true = true,
    (!g) = false,
    Owed.use (owed Try.prog 2) 21 [0, 1] [AVal.ptr 0 1 0 0, AVal.agg [AVal.int IntKind.i64 s, AVal.int IntKind.i64 q]] [AObj.rows false 1 [[AVal.map 1]], AObj.mp true ents, AObj.rows true 2 [[AVal.int IntKind.i64 s, AVal.int IntKind.i64 q]], AObj.rows false 3 [[AVal.int IntKind.i64 0, AVal.int IntKind.i64 0, AVal.fsl true 0 [] (some 0)]]] [AVal.ptr 0 1 0 0, AVal.agg [AVal.int IntKind.i64 s, AVal.int IntKind.i64 q]] [AObj.rows false 1 [[AVal.map 1]], AObj.mp true ents] (AVal.bool g) [AObj.rows false 1 [[AVal.map 1]], AObj.mp true ents],
    true = true,
    true = true,
    true = true]) by kernel_rfl) (allP_of (⟨rfl, rfl, rfl, rfl, h1, rfl, rfl, rfl, rfl, rfl, h2, rfl, rfl, rfl, rfl, rfl, rfl, rfl, rfl, rfl, rfl, rfl, rfl, rfl, h3, h4, h5, rfl, rfl, rfl, rfl, rfl, rfl, rfl, rfl, rfl, rfl, rfl, rfl, rfl, rfl, rfl, rfl, rfl, rfl, rfl, rfl, rfl, rfl, h6, ⟨h7, rfl, rfl, rfl⟩, rfl, rfl, rfl, trivial⟩))).move ([0, 1]) (by kernel_rfl) (by kernel_rfl) (by kernel_rfl)

theorem findA_4 (s : Int) (q : Int) (ents : List (AVal × AVal)) (q0 : Int) (e0 : Int) (a0 : Int) (b0 : Bool) (rs0 : List (List AVal)) (g : Bool)
    (h1 : FOk Try.prog 22 [AVal.agg [AVal.int IntKind.i64 e0, AVal.int IntKind.i64 a0, AVal.fsl b0 2 rs0 none]] [] (AVal.agg [AVal.int IntKind.i64 e0, AVal.int IntKind.i64 a0, AVal.fsl b0 2 rs0 none]) [])
    (h2 : decide (q0 > q) = false)
    (h3 : decide (q0 < q) = false)
    (h4 : AVal.agg (reifyL [Kind.int IntKind.i64, Kind.int IntKind.i64, Kind.int IntKind.i64, Kind.slice 2] (AVal.cells (Option.getD (afind (AVal.int IntKind.i64 s) ents) (AVal.agg [AVal.int IntKind.i64 0, AVal.int IntKind.i64 0, AVal.int IntKind.i64 0, AVal.fsl true 0 [] (some 0)])))) = AVal.agg [AVal.int IntKind.i64 q0, AVal.int IntKind.i64 e0, AVal.int IntKind.i64 a0, AVal.fsl b0 2 rs0 none])
    (h5 : okCells Try.prog 63 (Option.getD (afind (AVal.int IntKind.i64 s) ents) (AVal.agg [AVal.int IntKind.i64 0, AVal.int IntKind.i64 0, AVal.int IntKind.i64 0, AVal.fsl true 0 [] (some 0)])) = true)
    (h6 : (List.all ents fun p => keyKind Try.prog 3 (Prod.fst p)) = true)
    (h7 : (!g) = false)
    (h8 : FOk Try.prog 21 [AVal.ptr 0 1 0 0, AVal.agg [AVal.int IntKind.i64 s, AVal.int IntKind.i64 q]] [AObj.rows false 1 [[AVal.map 1]], AObj.mp true ents] (AVal.bool g) [AObj.rows false 1 [[AVal.map 1]], AObj.mp true ents]) :
    FOk Try.prog 10 ([AVal.ptr 0 1 0 0, idv s q]) (Tab ents) (AVal.tuple [AVal.agg [AVal.int IntKind.i64 e0, AVal.int IntKind.i64 a0, AVal.fsl b0 2 rs0 none], AVal.int IntKind.i64 0]) ([AObj.rows false 1 [[AVal.map 1]], AObj.mp true ents]) :=
  (evalF_ok followed Try.func10 (by kernel_rfl) (show evalF Try.prog Try.f10 ([AVal.ptr 0 1 0 0, idv s q]) (Tab ents) ([Dec.use [0, 1] [AVal.ptr 0 1 0 0, AVal.agg [AVal.int IntKind.i64 s, AVal.int IntKind.i64 q]] [AObj.rows false 1 [[AVal.map 1]], AObj.mp true ents] (AVal.bool g) [AObj.rows false 1 [[AVal.map 1]], AObj.mp true ents], Dec.br false, Dec.rw (last q0 e0 a0 b0 rs0), Dec.br false, Dec.br false, Dec.use [] [AVal.agg [AVal.int IntKind.i64 e0, AVal.int IntKind.i64 a0, AVal.fsl b0 2 rs0 none]] [] (rep e0 a0 b0 rs0) []]) = .ok (FRes.mk (AVal.tuple [AVal.agg [AVal.int IntKind.i64 e0, AVal.int IntKind.i64 a0, AVal.fsl b0 2 rs0 none], AVal.int IntKind.i64 0]) ([AObj.rows false 1 [[AVal.map 1]], AObj.mp true ents, AObj.rows true 2 [[AVal.int IntKind.i64 s, AVal.int IntKind.i64 q]], AObj.rows false 3 [[AVal.int IntKind.i64 e0, AVal.int IntKind.i64 a0, AVal.fsl b0 2 rs0 none]], AObj.rows false 4 [[AVal.int IntKind.i64 q0, AVal.int IntKind.i64 e0, AVal.int IntKind.i64 a0, AVal.fsl b0 2 rs0 none]]]) [true = true,
    true = true,
    true = true,
    true = true,
    Owed.use (owed Try.prog 2) 22 [] [AVal.agg [AVal.int IntKind.i64 e0, AVal.int IntKind.i64 a0, AVal.fsl b0 2 rs0 none]] [AObj.rows false 1 [[AVal.map 1]], AObj.mp true ents, AObj.rows true 2 [[AVal.int IntKind.i64 s, AVal.int IntKind.i64 q]], AObj.rows false 3 [[AVal.int IntKind.i64 0, AVal.int IntKind.i64 0, AVal.fsl true 0 [] (some 0)]], AObj.rows false 4 [[AVal.int IntKind.i64 q0, AVal.int IntKind.i64 e0, AVal.int IntKind.i64 a0, AVal.fsl b0 2 rs0 none]]] [AVal.agg [AVal.int IntKind.i64 e0, AVal.int IntKind.i64 a0, AVal.fsl b0 2 rs0 none]] [] (AVal.agg [AVal.int IntKind.i64 e0, AVal.int IntKind.i64 a0, AVal.fsl b0 2 rs0 none]) [],
    true = true,
    true = true,
    decide (q0 > q) = false,
    true = true,
    true = true,
    true = true,
    true = true,
    true = true,
    decide (q0 < q) = false,
    true = true,
    true = true,
    true = true,
    true = true,
    true = true,
    true = true,
    true = true,
    true = true,
    true = true,
    true = true,
    true = true,
    true = true,
    true = true,
    AVal.agg (reifyL [Kind.int IntKind.i64, Kind.int IntKind.i64, Kind.int IntKind.i64, Kind.slice 2] (AVal.cells (Option.getD (afind (AVal.int IntKind.i64 s) ents) (AVal.agg [AVal.int IntKind.i64 0, AVal.int IntKind.i64 0, AVal.int IntKind.i64 0, AVal.fsl true 0 [] (some 0)])))) = AVal.agg [AVal.int IntKind.i64 q0, AVal.int IntKind.i64 e0, AVal.int IntKind.i64 a0, AVal.fsl b0 2 rs0 none],
    okCells Try.prog 63 (Option.getD (afind (AVal.int IntKind.i64 s) ents) (AVal.agg [AVal.int IntKind.i64 0, AVal.int IntKind.i64 0, AVal.int IntKind.i64 0, AVal.fsl true 0 [] (some 0)])) = true,
    (List.all ents fun p => keyKind Try.prog 3 (Prod.fst p)) = true,
    true = true,
    true = true,
    true = true,
    true = true,
    true = true,
    true = true,
    true = true,
    true = true,
    true = true,
    true = true,
    true = true,
    true = true,
    true = true,
    true = true,
    true = true,
    true = true,
    true = true,
    true = true,
    true = true,
    true = true,
    true = true,
    true = true,
    (!g) = false,
    Owed.use (owed Try.prog 2) 21 [0, 1] [AVal.ptr 0 1 0 0, AVal.agg [AVal.int IntKind.i64 s, AVal.int IntKind.i64 q]] [AObj.rows false 1 [[AVal.map 1]], AObj.mp true ents, AObj.rows true 2 [[AVal.int IntKind.i64 s, AVal.int IntKind.i64 q]], AObj.rows false 3 [[AVal.int IntKind.i64 0, AVal.int IntKind.i64 0, AVal.fsl true 0 [] (some 0)]]] [AVal.ptr 0 1 0 0, AVal.agg [AVal.int IntKind.i64 s, AVal.int IntKind.i64 q]] [AObj.rows false 1 [[AVal.map 1]], AObj.mp true ents] (AVal.bool g) [AObj.rows false 1 [[AVal.map 1]], AObj.mp true ents],
    true = true,
    true = true,
    true = true]) by kernel_rfl) (allP_of (⟨rfl, rfl, rfl, rfl, ⟨h1, rfl, rfl, rfl⟩, rfl, rfl, h2, rfl, rfl, rfl, rfl, rfl, h3, rfl, rfl, rfl, rfl, rfl, rfl, rfl, rfl, rfl, rfl, rfl, rfl, rfl, h4, h5, h6, rfl, rfl, rfl, rfl, rfl, rfl, rfl, rfl, rfl, rfl, rfl, rfl, rfl, rfl, rfl, rfl, rfl, rfl, rfl, rfl, rfl, rfl, h7, ⟨h8, rfl, rfl, rfl⟩, rfl, rfl, rfl, trivial⟩))).move ([0, 1]) (by kernel_rfl) (by kernel_rfl) (by kernel_rfl)


theorem len_1 (ents : List (AVal × AVal)) :
    FOk Try.prog 12 ([AVal.ptr 0 1 0 0]) (Tab ents) (AVal.int IntKind.i64 (↑(List.length ents) : Int)) ([AObj.rows false 1 [[AVal.map 1]], AObj.mp true ents]) :=
  (evalF_ok followed Try.func12 (by kernel_rfl) (show evalF Try.prog Try.f12 ([AVal.ptr 0 1 0 0]) (Tab ents) ([Dec.br false]) = .ok (FRes.mk (AVal.int IntKind.i64 (↑(List.length ents) : Int)) ([AObj.rows false 1 [[AVal.map 1]], AObj.mp true ents]) [true = true,
    true = true,
    false = false]) by kernel_rfl) (allP_of (⟨rfl, rfl, rfl, trivial⟩))).move ([0, 1]) (by kernel_rfl) (by kernel_rfl) (by kernel_rfl)



end Go.L11
end

section
set_option linter.unusedVariables false
set_option linter.unusedSimpArgs false
set_option maxRecDepth 100000
namespace Go.L11
open Go Go.Abs Go.Proofs

def mayB (s q : Int) : Bool := decide (0 ≤ s ∧ s ≤ 2147483647 ∧ 1 ≤ q ∧ q ≤ 2147483647)

theorem given_ok (s q : Int) (ents : List (AVal × AVal)) : FOk Try.prog 21 [.ptr 0 1 0 0, idv s q] (Tab ents) (.bool (mayB s q)) (Tab ents) := by
  by_cases h0 : 0 ≤ s
  · by_cases h1 : s ≤ 2147483647
    · by_cases h2 : 1 ≤ q
      · exact (given_1 s q ents (decide_eq_true h2) (decide_eq_true h1) (decide_eq_true h0)).imp (Imp.bool (by simp [mayB, h0, h1, h2]))
      · exact (given_2 s q ents (decide_eq_false h2) (decide_eq_true h1) (decide_eq_true h0)).imp (Imp.bool (by simp [mayB, h2]))
    · exact (given_3 s q ents (decide_eq_false h1) (decide_eq_true h0)).imp (Imp.bool (by simp [mayB, h1]))
  · exact (given_4 s q ents (decide_eq_false h0)).imp (Imp.bool (by simp [mayB, h0]))

structure Posts (b : Bool) (rs : List (List AVal)) : Prop where
  nil : b = true → rs = []
  len : rs.length ≤ 1048576
  kind : (rs.all fun r => areKinds [.str, .str] r) = true
theorem Posts.one {b : Bool} {rs : List (List AVal)} (h : Posts b rs) : (rs.all fun r => r.all oneCell) = true := by
  rw [List.all_eq_true]
  intro r hr
  have := List.all_eq_true.1 h.kind r hr
  match r, this with
  | [x, y], h =>
    cases x <;> simp [areKinds, isKind] at h
    cases y <;> simp at h
    rfl
  | [], h => simp [areKinds] at h
  | [x], h => simp [areKinds] at h
  | x :: y :: z :: r, h => simp [areKinds] at h

theorem clone_ok (b : Bool) (rs : List (List AVal)) (h : Posts b rs) : FOk Try.prog 29 [.fsl b 2 rs none] [] (.fsl b 2 rs none) [] := by
  cases b with
  | true =>
    obtain rfl := h.nil rfl
    exact clone_1 true [] rfl
  | false =>
    have h1 := clone_2 false rs (by have := h.len; exact decide_eq_true (by omega)) h.one rfl
    rw [Nat.zero_add] at h1
    exact h1.fsl rfl rfl rfl

structure Rep where
  e : Int
  a : Int
  b : Bool
  rs : List (List AVal)
structure Ent where
  s : Int
  q : Int
  r : Rep

def zrep : Rep := ⟨0, 0, true, []⟩
def Rep.ok (r : Rep) : Prop := Posts r.b r.rs
abbrev Rep.av (r : Rep) : AVal := rep r.e r.a r.b r.rs
abbrev Ent.kv (x : Ent) : AVal × AVal := (.int .i64 x.s, last x.q x.r.e x.r.a x.r.b x.r.rs)
theorem zrep_ok : zrep.ok := ⟨fun _ => rfl, by simp [zrep], rfl⟩

def getE (s : Int) : List Ent → Option Ent
  | [] => none
  | x :: t => if s = x.s then some x else getE s t
def putE (y : Ent) : List Ent → List Ent
  | [] => [y]
  | x :: t => if y.s = x.s then y :: t else x :: putE y t

theorem afind_kv (s : Int) : ∀ (t : List Ent), afind (.int .i64 s) (t.map Ent.kv) = (getE s t).map fun x => last x.q x.r.e x.r.a x.r.b x.r.rs
  | [] => rfl
  | x :: t => by
    simp only [List.map_cons, afind, getE, keq, beq_self_eq_true, Bool.true_and, beq_iff_eq]
    split
    · rfl
    · exact afind_kv s t
theorem aput_kv (y : Ent) : ∀ (t : List Ent), aput (.int .i64 y.s) (last y.q y.r.e y.r.a y.r.b y.r.rs) (t.map Ent.kv) = (putE y t).map Ent.kv
  | [] => rfl
  | x :: t => by
    simp only [List.map_cons, aput, putE, keq, beq_self_eq_true, Bool.true_and, beq_iff_eq]
    split
    · rfl
    · rw [List.map_cons, aput_kv y t]
theorem key_ok (s : Int) : keyKind Try.prog 3 (.int .i64 s) = true := by kernel_rfl
theorem keys_ok (t : List Ent) : ((t.map Ent.kv).all fun p => keyKind Try.prog 3 p.1) = true := by
  rw [List.all_eq_true]
  intro p hp
  obtain ⟨x, _, rfl⟩ := List.mem_map.1 hp
  exact key_ok x.s
theorem cells_ok (q e a : Int) (b : Bool) (rs : List (List AVal)) : okCells Try.prog 63 (last q e a b rs) = true := by
  cases b with
  | false => kernel_rfl
  | true => cases rs <;> kernel_rfl
theorem getE_mem {s : Int} : ∀ {t : List Ent} {x : Ent}, getE s t = some x → x ∈ t ∧ x.s = s
  | [], x, h => by cases h
  | y :: t, x, h => by
    simp only [getE] at h
    split at h
    · rename_i e; cases h; exact ⟨by simp, e.symm⟩
    · obtain ⟨h1, h2⟩ := getE_mem h; exact ⟨by simp [h1], h2⟩

def tabOk (t : List Ent) : Prop := ∀ x ∈ t, x.r.ok
def seqOf (t : List Ent) (s : Int) : Int := ((getE s t).map (·.q)).getD 0
def repOf (t : List Ent) (s : Int) : Rep := ((getE s t).map (·.r)).getD zrep
theorem repOf_ok {t : List Ent} (h : tabOk t) (s : Int) : (repOf t s).ok := by
  unfold repOf
  cases hg : getE s t with
  | none => exact zrep_ok
  | some x => exact h x (getE_mem hg).1

theorem look_ok (t : List Ent) (s : Int) : (afind (.int .i64 s) (t.map Ent.kv)).getD zlast = (match getE s t with | some x => last x.q x.r.e x.r.a x.r.b x.r.rs | none => zlast) := by
  rw [afind_kv]; cases getE s t <;> rfl
theorem look_cells (t : List Ent) (s : Int) : okCells Try.prog 63 ((afind (.int .i64 s) (t.map Ent.kv)).getD zlast) = true := by
  rw [look_ok]
  cases getE s t with
  | none => kernel_rfl
  | some x => exact cells_ok _ _ _ _ _

def findS (t : List Ent) (s q : Int) : Rep × Int :=
  if mayB s q = false then (zrep, 1) else if seqOf t s < q then (zrep, 3) else if seqOf t s > q then (zrep, 110) else (repOf t s, 0)
def putS (t : List Ent) (s q : Int) (r : Rep) : Int × List Ent :=
  if mayB s q = false then (1, t) else if r.rs.length > 64 then (1, t) else if seqOf t s ≥ q then (110, t)
  else if getE s t = none ∧ t.length ≥ 64 then (2, t) else (0, putE ⟨s, q, r⟩ t)

theorem own_ok (r : Rep) (h : r.ok) : FOk Try.prog 22 [r.av] [] r.av [] := own_1 r.e r.a r.b r.rs (clone_ok r.b r.rs h)

theorem find_ok (t : List Ent) (hT : tabOk t) (s q : Int) : FOk Try.prog 10 [.ptr 0 1 0 0, idv s q] (Tab (t.map Ent.kv)) (.tuple [(findS t s q).1.av, .int .i64 (findS t s q).2]) (Tab (t.map Ent.kv)) := by
  have hg := given_ok s q (t.map Ent.kv)
  have hk := keys_ok t
  have hc := look_cells t s
  unfold findS
  by_cases h1 : mayB s q = false
  · rw [if_pos h1]
    exact findA_1 s q (t.map Ent.kv) 0 0 0 true [] (mayB s q) (by simp [h1]) hg
  · rw [if_neg h1]
    have h1 : (!mayB s q) = false := by simpa using h1
    have hrw : ∀ v, v = (match getE s t with | some x => last x.q x.r.e x.r.a x.r.b x.r.rs | none => zlast) → (afind (.int .i64 s) (t.map Ent.kv)).getD zlast = v := fun v h => by rw [look_ok, h]
    have key : asType Try.prog 63 (reifyL (kindsOf Try.prog 20 63) ((afind (.int .i64 s) (t.map Ent.kv)).getD zlast).cells) = last (seqOf t s) (repOf t s).e (repOf t s).a (repOf t s).b (repOf t s).rs := by
      rw [look_ok]
      unfold seqOf repOf
      cases getE s t with
      | none => kernel_rfl
      | some x => kernel_rfl
    by_cases h2 : seqOf t s < q
    · rw [if_pos h2]
      exact findA_2 s q (t.map Ent.kv) (seqOf t s) (repOf t s).e (repOf t s).a (repOf t s).b (repOf t s).rs (mayB s q) (by simpa using h2) key hc hk h1 hg
    · rw [if_neg h2]
      by_cases h3 : seqOf t s > q
      · rw [if_pos h3]
        exact findA_3 s q (t.map Ent.kv) (seqOf t s) (repOf t s).e (repOf t s).a (repOf t s).b (repOf t s).rs (mayB s q) (by simpa using h3) (by simpa using h2) key hc hk h1 hg
      · rw [if_neg h3]
        exact findA_4 s q (t.map Ent.kv) (seqOf t s) (repOf t s).e (repOf t s).a (repOf t s).b (repOf t s).rs (mayB s q) (own_ok (repOf t s) (repOf_ok hT s)) (by simpa using h3) (by simpa using h2) key hc hk h1 hg

theorem put_ok (t : List Ent) (hT : tabOk t) (s q : Int) (r : Rep) (hr : r.ok) : FOk Try.prog 11 [.ptr 0 1 0 0, idv s q, r.av] (Tab (t.map Ent.kv)) (.int .i64 (putS t s q r).1) (Tab ((putS t s q r).2.map Ent.kv)) := by
  have hg := given_ok s q (t.map Ent.kv)
  have hk := keys_ok t
  have hc := look_cells t s
  have key : (AVal.tuple [asType Try.prog 63 (reifyL (kindsOf Try.prog 20 63) ((afind (.int .i64 s) (t.map Ent.kv)).getD zlast).cells), .bool (afind (.int .i64 s) (t.map Ent.kv)).isSome]) = .tuple [last (seqOf t s) (repOf t s).e (repOf t s).a (repOf t s).b (repOf t s).rs, .bool (getE s t).isSome] := by
    rw [look_ok, afind_kv]
    unfold seqOf repOf
    cases getE s t with
    | none => kernel_rfl
    | some x => kernel_rfl
  unfold putS
  by_cases h1 : mayB s q = false
  · rw [if_pos h1]
    exact putA_1 s q r.e r.a r.b r.rs (t.map Ent.kv) 0 0 0 true [] (mayB s q) true (by simp [h1]) hg
  · rw [if_neg h1]
    have h1 : (!mayB s q) = false := by simpa using h1
    by_cases h2 : r.rs.length > 64
    · rw [if_pos h2]
      exact putA_2 s q r.e r.a r.b r.rs (t.map Ent.kv) 0 0 0 true [] (mayB s q) true (by simp; omega) h1 hg
    · rw [if_neg h2]
      have h2 : decide ((r.rs.length : Int) > 64) = false := by simp; omega
      by_cases h3 : seqOf t s ≥ q
      · rw [if_pos h3]
        exact putA_3 s q r.e r.a r.b r.rs (t.map Ent.kv) (seqOf t s) (repOf t s).e (repOf t s).a (repOf t s).b (repOf t s).rs (mayB s q) (getE s t).isSome (by simpa using h3) key hc hk h2 h1 hg
      · rw [if_neg h3]
        have h3 : decide (seqOf t s ≥ q) = false := by simpa using h3
        have hput : (aput (.int .i64 s) (last q r.e r.a r.b r.rs) (t.map Ent.kv)) = (putE ⟨s, q, r⟩ t).map Ent.kv := aput_kv ⟨s, q, r⟩ t
        cases hgt : getE s t with
        | some x =>
          rw [if_neg (by simp)]
          have := putA_6 s q r.e r.a r.b r.rs (t.map Ent.kv) (seqOf t s) (repOf t s).e (repOf t s).a (repOf t s).b (repOf t s).rs (mayB s q) (getE s t).isSome hk (own_ok r hr) (by simp [hgt]) h3 key hc h2 h1 hg
          rw [← hput]; exact this
        | none =>
          by_cases h4 : t.length ≥ 64
          · rw [if_pos ⟨rfl, h4⟩]
            exact putA_4 s q r.e r.a r.b r.rs (t.map Ent.kv) (seqOf t s) (repOf t s).e (repOf t s).a (repOf t s).b (repOf t s).rs (mayB s q) (getE s t).isSome (by simp; omega) (by simp [hgt]) h3 key hc hk h2 h1 hg
          · rw [if_neg (by rintro ⟨_, h⟩; exact h4 h)]
            have := putA_5 s q r.e r.a r.b r.rs (t.map Ent.kv) (seqOf t s) (repOf t s).e (repOf t s).a (repOf t s).b (repOf t s).rs (mayB s q) (getE s t).isSome hk (own_ok r hr) (by simp; omega) (by simp [hgt]) h3 key hc h2 h1 hg
            rw [← hput]; exact this

theorem len_ok (t : List Ent) : FOk Try.prog 12 [.ptr 0 1 0 0] (Tab (t.map Ent.kv)) (.int .i64 (t.length : Int)) (Tab (t.map Ent.kv)) := by
  have := len_1 (t.map Ent.kv)
  rw [List.length_map] at this
  exact this
theorem new_ok : FOk Try.prog 9 [] [] (.ptr 0 1 0 0) (Tab []) := new_1

end Go.L11
end

section
set_option linter.unusedVariables false
set_option linter.unusedSimpArgs false
set_option maxRecDepth 100000
namespace Go.L11
open Go Go.Abs Go.Proofs

abbrev ent1 (s q e a : Int) : AVal × AVal := (.int .i64 s, last q e a true [])

theorem awake_1
    (h1 : FOk Try.prog 12 [AVal.ptr 0 1 0 0] [AObj.rows false 1 [[AVal.map 1]], AObj.mp true [(AVal.int IntKind.i64 5, AVal.agg [AVal.int IntKind.i64 3, AVal.int IntKind.i64 0, AVal.int IntKind.i64 3, AVal.fsl true 2 [] none])]] (AVal.int IntKind.i64 1) [AObj.rows false 1 [[AVal.map 1]], AObj.mp true [(AVal.int IntKind.i64 5, AVal.agg [AVal.int IntKind.i64 3, AVal.int IntKind.i64 0, AVal.int IntKind.i64 3, AVal.fsl true 2 [] none])]])
    (h2 : FOk Try.prog 10 [AVal.ptr 0 1 0 0, AVal.agg [AVal.int IntKind.i64 5, AVal.int IntKind.i64 4]] [AObj.rows false 1 [[AVal.map 1]], AObj.mp true [(AVal.int IntKind.i64 5, AVal.agg [AVal.int IntKind.i64 3, AVal.int IntKind.i64 0, AVal.int IntKind.i64 3, AVal.fsl true 2 [] none])]] (AVal.tuple [AVal.agg [AVal.int IntKind.i64 0, AVal.int IntKind.i64 0, AVal.fsl true 2 [] none], AVal.int IntKind.i64 3]) [AObj.rows false 1 [[AVal.map 1]], AObj.mp true [(AVal.int IntKind.i64 5, AVal.agg [AVal.int IntKind.i64 3, AVal.int IntKind.i64 0, AVal.int IntKind.i64 3, AVal.fsl true 2 [] none])]])
    (h3 : FOk Try.prog 10 [AVal.ptr 0 1 0 0, AVal.agg [AVal.int IntKind.i64 5, AVal.int IntKind.i64 3]] [AObj.rows false 1 [[AVal.map 1]], AObj.mp true [(AVal.int IntKind.i64 5, AVal.agg [AVal.int IntKind.i64 3, AVal.int IntKind.i64 0, AVal.int IntKind.i64 3, AVal.fsl true 2 [] none])]] (AVal.tuple [AVal.agg [AVal.int IntKind.i64 0, AVal.int IntKind.i64 3, AVal.fsl true 2 [] none], AVal.int IntKind.i64 0]) [AObj.rows false 1 [[AVal.map 1]], AObj.mp true [(AVal.int IntKind.i64 5, AVal.agg [AVal.int IntKind.i64 3, AVal.int IntKind.i64 0, AVal.int IntKind.i64 3, AVal.fsl true 2 [] none])]])
    (h4 : FOk Try.prog 10 [AVal.ptr 0 1 0 0, AVal.agg [AVal.int IntKind.i64 5, AVal.int IntKind.i64 1]] [AObj.rows false 1 [[AVal.map 1]], AObj.mp true [(AVal.int IntKind.i64 5, AVal.agg [AVal.int IntKind.i64 3, AVal.int IntKind.i64 0, AVal.int IntKind.i64 3, AVal.fsl true 2 [] none])]] (AVal.tuple [AVal.agg [AVal.int IntKind.i64 0, AVal.int IntKind.i64 0, AVal.fsl true 2 [] none], AVal.int IntKind.i64 110]) [AObj.rows false 1 [[AVal.map 1]], AObj.mp true [(AVal.int IntKind.i64 5, AVal.agg [AVal.int IntKind.i64 3, AVal.int IntKind.i64 0, AVal.int IntKind.i64 3, AVal.fsl true 2 [] none])]])
    (h5 : FOk Try.prog 11 [AVal.ptr 0 1 0 0, AVal.agg [AVal.int IntKind.i64 5, AVal.int IntKind.i64 3], AVal.agg [AVal.int IntKind.i64 0, AVal.int IntKind.i64 3, AVal.fsl true 2 [] none]] [AObj.rows false 1 [[AVal.map 1]], AObj.mp true [(AVal.int IntKind.i64 5, AVal.agg [AVal.int IntKind.i64 1, AVal.int IntKind.i64 0, AVal.int IntKind.i64 1, AVal.fsl true 2 [] none])]] (AVal.int IntKind.i64 0) [AObj.rows false 1 [[AVal.map 1]], AObj.mp true [(AVal.int IntKind.i64 5, AVal.agg [AVal.int IntKind.i64 3, AVal.int IntKind.i64 0, AVal.int IntKind.i64 3, AVal.fsl true 2 [] none])]])
    (h6 : FOk Try.prog 11 [AVal.ptr 0 1 0 0, AVal.agg [AVal.int IntKind.i64 5, AVal.int IntKind.i64 1], AVal.agg [AVal.int IntKind.i64 0, AVal.int IntKind.i64 1, AVal.fsl true 2 [] none]] [AObj.rows false 1 [[AVal.map 1]], AObj.mp true []] (AVal.int IntKind.i64 0) [AObj.rows false 1 [[AVal.map 1]], AObj.mp true [(AVal.int IntKind.i64 5, AVal.agg [AVal.int IntKind.i64 1, AVal.int IntKind.i64 0, AVal.int IntKind.i64 1, AVal.fsl true 2 [] none])]])
    (h7 : FOk Try.prog 9 [] [] (AVal.ptr 0 1 0 0) [AObj.rows false 1 [[AVal.map 1]], AObj.mp true []]) :
    FOk Try.prog 13 ([]) ([]) (AVal.bool true) ([]) :=
  (evalF_ok followed Try.func13 (by kernel_rfl) (show evalF Try.prog Try.f13 ([]) ([]) ([Dec.use [] [] [] (AVal.ptr 0 1 0 0) (Tab []), Dec.br false, Dec.use [0, 1] [AVal.ptr 0 1 0 0, AVal.agg [AVal.int IntKind.i64 5, AVal.int IntKind.i64 1], AVal.agg [AVal.int IntKind.i64 0, AVal.int IntKind.i64 1, AVal.fsl true 2 [] none]] [AObj.rows false 1 [[AVal.map 1]], AObj.mp true []] (AVal.int IntKind.i64 0) (Tab [ent1 5 1 0 1]), Dec.br false, Dec.use [0, 1] [AVal.ptr 0 1 0 0, AVal.agg [AVal.int IntKind.i64 5, AVal.int IntKind.i64 3], AVal.agg [AVal.int IntKind.i64 0, AVal.int IntKind.i64 3, AVal.fsl true 2 [] none]] [AObj.rows false 1 [[AVal.map 1]], AObj.mp true [(AVal.int IntKind.i64 5, AVal.agg [AVal.int IntKind.i64 1, AVal.int IntKind.i64 0, AVal.int IntKind.i64 1, AVal.fsl true 2 [] none])]] (AVal.int IntKind.i64 0) (Tab [ent1 5 3 0 3]), Dec.br false, Dec.use [0, 1] [AVal.ptr 0 1 0 0, AVal.agg [AVal.int IntKind.i64 5, AVal.int IntKind.i64 1]] [AObj.rows false 1 [[AVal.map 1]], AObj.mp true [(AVal.int IntKind.i64 5, AVal.agg [AVal.int IntKind.i64 3, AVal.int IntKind.i64 0, AVal.int IntKind.i64 3, AVal.fsl true 2 [] none])]] (AVal.tuple [rep 0 0 true [], AVal.int IntKind.i64 110]) [AObj.rows false 1 [[AVal.map 1]], AObj.mp true [(AVal.int IntKind.i64 5, AVal.agg [AVal.int IntKind.i64 3, AVal.int IntKind.i64 0, AVal.int IntKind.i64 3, AVal.fsl true 2 [] none])]], Dec.use [0, 1] [AVal.ptr 0 1 0 0, AVal.agg [AVal.int IntKind.i64 5, AVal.int IntKind.i64 3]] [AObj.rows false 1 [[AVal.map 1]], AObj.mp true [(AVal.int IntKind.i64 5, AVal.agg [AVal.int IntKind.i64 3, AVal.int IntKind.i64 0, AVal.int IntKind.i64 3, AVal.fsl true 2 [] none])]] (AVal.tuple [rep 0 3 true [], AVal.int IntKind.i64 0]) [AObj.rows false 1 [[AVal.map 1]], AObj.mp true [(AVal.int IntKind.i64 5, AVal.agg [AVal.int IntKind.i64 3, AVal.int IntKind.i64 0, AVal.int IntKind.i64 3, AVal.fsl true 2 [] none])]], Dec.use [0, 1] [AVal.ptr 0 1 0 0, AVal.agg [AVal.int IntKind.i64 5, AVal.int IntKind.i64 4]] [AObj.rows false 1 [[AVal.map 1]], AObj.mp true [(AVal.int IntKind.i64 5, AVal.agg [AVal.int IntKind.i64 3, AVal.int IntKind.i64 0, AVal.int IntKind.i64 3, AVal.fsl true 2 [] none])]] (AVal.tuple [rep 0 0 true [], AVal.int IntKind.i64 3]) [AObj.rows false 1 [[AVal.map 1]], AObj.mp true [(AVal.int IntKind.i64 5, AVal.agg [AVal.int IntKind.i64 3, AVal.int IntKind.i64 0, AVal.int IntKind.i64 3, AVal.fsl true 2 [] none])]], Dec.br true, Dec.br true, Dec.br true, Dec.br true, Dec.use [0, 1] [AVal.ptr 0 1 0 0] [AObj.rows false 1 [[AVal.map 1]], AObj.mp true [(AVal.int IntKind.i64 5, AVal.agg [AVal.int IntKind.i64 3, AVal.int IntKind.i64 0, AVal.int IntKind.i64 3, AVal.fsl true 2 [] none])]] (AVal.int IntKind.i64 1) [AObj.rows false 1 [[AVal.map 1]], AObj.mp true [(AVal.int IntKind.i64 5, AVal.agg [AVal.int IntKind.i64 3, AVal.int IntKind.i64 0, AVal.int IntKind.i64 3, AVal.fsl true 2 [] none])]]]) = .ok (FRes.mk (AVal.bool true) ([AObj.rows false 1 [[AVal.map 1]], AObj.mp true [(AVal.int IntKind.i64 5, AVal.agg [AVal.int IntKind.i64 3, AVal.int IntKind.i64 0, AVal.int IntKind.i64 3, AVal.fsl true 2 [] none])], AObj.rows false 3 [[AVal.int IntKind.i64 0, AVal.int IntKind.i64 0, AVal.fsl true 2 [] none]], AObj.rows false 3 [[AVal.int IntKind.i64 0, AVal.int IntKind.i64 3, AVal.fsl true 2 [] none]], AObj.rows false 3 [[AVal.int IntKind.i64 0, AVal.int IntKind.i64 0, AVal.fsl true 2 [] none]]]) [Owed.use (owed Try.prog 0) 12 [0, 1] [AVal.ptr 0 1 0 0] [AObj.rows false 1 [[AVal.map 1]], AObj.mp true [(AVal.int IntKind.i64 5, AVal.agg [AVal.int IntKind.i64 3, AVal.int IntKind.i64 0, AVal.int IntKind.i64 3, AVal.fsl true 2 [] none])], AObj.rows false 3 [[AVal.int IntKind.i64 0, AVal.int IntKind.i64 0, AVal.fsl true 2 [] none]], AObj.rows false 3 [[AVal.int IntKind.i64 0, AVal.int IntKind.i64 3, AVal.fsl true 2 [] none]], AObj.rows false 3 [[AVal.int IntKind.i64 0, AVal.int IntKind.i64 0, AVal.fsl true 2 [] none]]] [AVal.ptr 0 1 0 0] [AObj.rows false 1 [[AVal.map 1]], AObj.mp true [(AVal.int IntKind.i64 5, AVal.agg [AVal.int IntKind.i64 3, AVal.int IntKind.i64 0, AVal.int IntKind.i64 3, AVal.fsl true 2 [] none])]] (AVal.int IntKind.i64 1) [AObj.rows false 1 [[AVal.map 1]], AObj.mp true [(AVal.int IntKind.i64 5, AVal.agg [AVal.int IntKind.i64 3, AVal.int IntKind.i64 0, AVal.int IntKind.i64 3, AVal.fsl true 2 [] none])]],
    (3 == 3) = true,
    (0 == 0) = true,
    (3 == 3) = true,
    true = true,
    true = true,
    (110 == 110) = true,
    true = true,
    true = true,
    Owed.use (owed Try.prog 0) 10 [0, 1] [AVal.ptr 0 1 0 0, AVal.agg [AVal.int IntKind.i64 5, AVal.int IntKind.i64 4]] [AObj.rows false 1 [[AVal.map 1]], AObj.mp true [(AVal.int IntKind.i64 5, AVal.agg [AVal.int IntKind.i64 3, AVal.int IntKind.i64 0, AVal.int IntKind.i64 3, AVal.fsl true 2 [] none])], AObj.rows false 3 [[AVal.int IntKind.i64 0, AVal.int IntKind.i64 0, AVal.fsl true 2 [] none]], AObj.rows false 3 [[AVal.int IntKind.i64 0, AVal.int IntKind.i64 3, AVal.fsl true 2 [] none]]] [AVal.ptr 0 1 0 0, AVal.agg [AVal.int IntKind.i64 5, AVal.int IntKind.i64 4]] [AObj.rows false 1 [[AVal.map 1]], AObj.mp true [(AVal.int IntKind.i64 5, AVal.agg [AVal.int IntKind.i64 3, AVal.int IntKind.i64 0, AVal.int IntKind.i64 3, AVal.fsl true 2 [] none])]] (AVal.tuple [AVal.agg [AVal.int IntKind.i64 0, AVal.int IntKind.i64 0, AVal.fsl true 2 [] none], AVal.int IntKind.i64 3]) [AObj.rows false 1 [[AVal.map 1]], AObj.mp true [(AVal.int IntKind.i64 5, AVal.agg [AVal.int IntKind.i64 3, AVal.int IntKind.i64 0, AVal.int IntKind.i64 3, AVal.fsl true 2 [] none])]],
    true = true,
    true = true,
    Owed.use (owed Try.prog 0) 10 [0, 1] [AVal.ptr 0 1 0 0, AVal.agg [AVal.int IntKind.i64 5, AVal.int IntKind.i64 3]] [AObj.rows false 1 [[AVal.map 1]], AObj.mp true [(AVal.int IntKind.i64 5, AVal.agg [AVal.int IntKind.i64 3, AVal.int IntKind.i64 0, AVal.int IntKind.i64 3, AVal.fsl true 2 [] none])], AObj.rows false 3 [[AVal.int IntKind.i64 0, AVal.int IntKind.i64 0, AVal.fsl true 2 [] none]]] [AVal.ptr 0 1 0 0, AVal.agg [AVal.int IntKind.i64 5, AVal.int IntKind.i64 3]] [AObj.rows false 1 [[AVal.map 1]], AObj.mp true [(AVal.int IntKind.i64 5, AVal.agg [AVal.int IntKind.i64 3, AVal.int IntKind.i64 0, AVal.int IntKind.i64 3, AVal.fsl true 2 [] none])]] (AVal.tuple [AVal.agg [AVal.int IntKind.i64 0, AVal.int IntKind.i64 3, AVal.fsl true 2 [] none], AVal.int IntKind.i64 0]) [AObj.rows false 1 [[AVal.map 1]], AObj.mp true [(AVal.int IntKind.i64 5, AVal.agg [AVal.int IntKind.i64 3, AVal.int IntKind.i64 0, AVal.int IntKind.i64 3, AVal.fsl true 2 [] none])]],
    true = true,
    true = true,
    Owed.use (owed Try.prog 0) 10 [0, 1] [AVal.ptr 0 1 0 0, AVal.agg [AVal.int IntKind.i64 5, AVal.int IntKind.i64 1]] [AObj.rows false 1 [[AVal.map 1]], AObj.mp true [(AVal.int IntKind.i64 5, AVal.agg [AVal.int IntKind.i64 3, AVal.int IntKind.i64 0, AVal.int IntKind.i64 3, AVal.fsl true 2 [] none])]] [AVal.ptr 0 1 0 0, AVal.agg [AVal.int IntKind.i64 5, AVal.int IntKind.i64 1]] [AObj.rows false 1 [[AVal.map 1]], AObj.mp true [(AVal.int IntKind.i64 5, AVal.agg [AVal.int IntKind.i64 3, AVal.int IntKind.i64 0, AVal.int IntKind.i64 3, AVal.fsl true 2 [] none])]] (AVal.tuple [AVal.agg [AVal.int IntKind.i64 0, AVal.int IntKind.i64 0, AVal.fsl true 2 [] none], AVal.int IntKind.i64 110]) [AObj.rows false 1 [[AVal.map 1]], AObj.mp true [(AVal.int IntKind.i64 5, AVal.agg [AVal.int IntKind.i64 3, AVal.int IntKind.i64 0, AVal.int IntKind.i64 3, AVal.fsl true 2 [] none])]],
    false = false,
    Owed.use (owed Try.prog 0) 11 [0, 1] [AVal.ptr 0 1 0 0, AVal.agg [AVal.int IntKind.i64 5, AVal.int IntKind.i64 3], AVal.agg [AVal.int IntKind.i64 0, AVal.int IntKind.i64 3, AVal.fsl true 2 [] none]] [AObj.rows false 1 [[AVal.map 1]], AObj.mp true [(AVal.int IntKind.i64 5, AVal.agg [AVal.int IntKind.i64 1, AVal.int IntKind.i64 0, AVal.int IntKind.i64 1, AVal.fsl true 2 [] none])]] [AVal.ptr 0 1 0 0, AVal.agg [AVal.int IntKind.i64 5, AVal.int IntKind.i64 3], AVal.agg [AVal.int IntKind.i64 0, AVal.int IntKind.i64 3, AVal.fsl true 2 [] none]] [AObj.rows false 1 [[AVal.map 1]], AObj.mp true [(AVal.int IntKind.i64 5, AVal.agg [AVal.int IntKind.i64 1, AVal.int IntKind.i64 0, AVal.int IntKind.i64 1, AVal.fsl true 2 [] none])]] (AVal.int IntKind.i64 0) [AObj.rows false 1 [[AVal.map 1]], AObj.mp true [(AVal.int IntKind.i64 5, AVal.agg [AVal.int IntKind.i64 3, AVal.int IntKind.i64 0, AVal.int IntKind.i64 3, AVal.fsl true 2 [] none])]],
    (0 != 0) = false,
    Owed.use (owed Try.prog 0) 11 [0, 1] [AVal.ptr 0 1 0 0, AVal.agg [AVal.int IntKind.i64 5, AVal.int IntKind.i64 1], AVal.agg [AVal.int IntKind.i64 0, AVal.int IntKind.i64 1, AVal.fsl true 2 [] none]] [AObj.rows false 1 [[AVal.map 1]], AObj.mp true []] [AVal.ptr 0 1 0 0, AVal.agg [AVal.int IntKind.i64 5, AVal.int IntKind.i64 1], AVal.agg [AVal.int IntKind.i64 0, AVal.int IntKind.i64 1, AVal.fsl true 2 [] none]] [AObj.rows false 1 [[AVal.map 1]], AObj.mp true []] (AVal.int IntKind.i64 0) [AObj.rows false 1 [[AVal.map 1]], AObj.mp true [(AVal.int IntKind.i64 5, AVal.agg [AVal.int IntKind.i64 1, AVal.int IntKind.i64 0, AVal.int IntKind.i64 1, AVal.fsl true 2 [] none])]],
    false = false,
    Owed.use (owed Try.prog 0) 9 [] [] [] [] [] (AVal.ptr 0 1 0 0) [AObj.rows false 1 [[AVal.map 1]], AObj.mp true []]]) by kernel_rfl) (allP_of (⟨⟨h1, rfl, rfl, rfl⟩, rfl, rfl, rfl, rfl, rfl, rfl, rfl, rfl, ⟨h2, rfl, rfl, rfl⟩, rfl, rfl, ⟨h3, rfl, rfl, rfl⟩, rfl, rfl, ⟨h4, rfl, rfl, rfl⟩, rfl, ⟨h5, rfl, rfl, rfl⟩, rfl, ⟨h6, rfl, rfl, rfl⟩, rfl, ⟨h7, rfl, rfl, rfl⟩, trivial⟩))).move ([]) (by kernel_rfl) (by kernel_rfl) (by kernel_rfl)



def e1 : Ent := ⟨5, 1, ⟨0, 1, true, []⟩⟩
def e3 : Ent := ⟨5, 3, ⟨0, 3, true, []⟩⟩
def litR (e a : Int) : Rep := ⟨e, a, true, []⟩
theorem litR_ok (e a : Int) : (litR e a).ok := ⟨fun _ => rfl, by simp [litR], rfl⟩
theorem t1_ok : tabOk [e1] := fun x hx => by simp at hx; subst hx; exact ⟨fun _ => rfl, by simp [e1], rfl⟩
theorem t3_ok : tabOk [e3] := fun x hx => by simp at hx; subst hx; exact ⟨fun _ => rfl, by simp [e3], rfl⟩
theorem awake_ok : FOk Try.prog 13 [] [] (.bool true) [] :=
  awake_1 (len_ok [e3]) (find_ok [e3] t3_ok 5 4) (find_ok [e3] t3_ok 5 3) (find_ok [e3] t3_ok 5 1) (put_ok [e1] t1_ok 5 3 (litR 0 3) (litR_ok 0 3)) (put_ok [] (by intro x hx; simp at hx) 5 1 (litR 0 1) (litR_ok 0 1)) new_ok

end Go.L11
end

section
set_option linter.unusedVariables false
set_option maxRecDepth 100000
namespace Go.L11
open Go Go.Abs Go.Proofs
abbrev Em : AState := [.rows false 1 [[.nilm]]]
abbrev zr : AVal := rep 0 0 true []
theorem ngN_1 (s : Int) (q : Int) :
    FOk Try.prog 21 ([AVal.nilp, idv s q]) ([]) (AVal.bool false) ([]) :=
  (evalF_ok followed Try.func21 (by kernel_rfl) (show evalF Try.prog Try.f21 ([AVal.nilp, idv s q]) ([]) ([Dec.br false]) = .ok (FRes.mk (AVal.bool false) ([AObj.rows true 2 [[AVal.int IntKind.i64 s, AVal.int IntKind.i64 q]]]) ((false = false) :: [])) by kernel_rfl) (allP_of ⟨rfl, trivial⟩)).move ([]) (by kernel_rfl) (by kernel_rfl) (by kernel_rfl)

def ngN_T (s : Int) (q : Int) (Q : AVal → AState → Prop) : Prop := Q (AVal.bool false) ([])
theorem ngN_wp (s : Int) (q : Int) {Q : AVal → AState → Prop} (h : ngN_T s q Q) : ∃ r σ', FOk Try.prog 21 ([AVal.nilp, idv s q]) ([]) r σ' ∧ Q r σ' :=
  ⟨_, _, ngN_1 s q, h⟩


theorem ngE_1 (s : Int) (q : Int) :
    FOk Try.prog 21 ([AVal.ptr 0 1 0 0, idv s q]) (Em) (AVal.bool false) ([AObj.rows false 1 [[AVal.nilm]]]) :=
  (evalF_ok followed Try.func21 (by kernel_rfl) (show evalF Try.prog Try.f21 ([AVal.ptr 0 1 0 0, idv s q]) (Em) ([Dec.br true, Dec.br false]) = .ok (FRes.mk (AVal.bool false) ([AObj.rows false 1 [[AVal.nilm]], AObj.rows true 2 [[AVal.int IntKind.i64 s, AVal.int IntKind.i64 q]]]) ((false = false) :: (tr 3 ++ []))) by kernel_rfl) (allP_of ⟨rfl, (trC 3 trivial)⟩)).move ([0]) (by kernel_rfl) (by kernel_rfl) (by kernel_rfl)

def ngE_T (s : Int) (q : Int) (Q : AVal → AState → Prop) : Prop := Q (AVal.bool false) ([AObj.rows false 1 [[AVal.nilm]]])
theorem ngE_wp (s : Int) (q : Int) {Q : AVal → AState → Prop} (h : ngE_T s q Q) : ∃ r σ', FOk Try.prog 21 ([AVal.ptr 0 1 0 0, idv s q]) (Em) r σ' ∧ Q r σ' :=
  ⟨_, _, ngE_1 s q, h⟩


theorem nfN_1 (s : Int) (q : Int)
    (h1 : FOk Try.prog 21 [AVal.nilp, AVal.agg [AVal.int IntKind.i64 s, AVal.int IntKind.i64 q]] [] (AVal.bool false) []) :
    FOk Try.prog 10 ([AVal.nilp, idv s q]) ([]) (AVal.tuple [AVal.agg [AVal.int IntKind.i64 0, AVal.int IntKind.i64 0, AVal.fsl true 2 [] none], AVal.int IntKind.i64 1]) ([]) :=
  (evalF_ok followed Try.func10 (by kernel_rfl) (show evalF Try.prog Try.f10 ([AVal.nilp, idv s q]) ([]) ([Dec.use [] [AVal.nilp, AVal.agg [AVal.int IntKind.i64 s, AVal.int IntKind.i64 q]] [] (AVal.bool false) [], Dec.br true]) = .ok (FRes.mk (AVal.tuple [AVal.agg [AVal.int IntKind.i64 0, AVal.int IntKind.i64 0, AVal.fsl true 2 [] none], AVal.int IntKind.i64 1]) ([AObj.rows true 2 [[AVal.int IntKind.i64 s, AVal.int IntKind.i64 q]], AObj.rows false 3 [[AVal.int IntKind.i64 0, AVal.int IntKind.i64 0, AVal.fsl true 0 [] (some 0)]]]) (tr 5 ++ ((Owed.use (owed Try.prog 0) 21 [] [AVal.nilp, AVal.agg [AVal.int IntKind.i64 s, AVal.int IntKind.i64 q]] [AObj.rows true 2 [[AVal.int IntKind.i64 s, AVal.int IntKind.i64 q]], AObj.rows false 3 [[AVal.int IntKind.i64 0, AVal.int IntKind.i64 0, AVal.fsl true 0 [] (some 0)]]] [AVal.nilp, AVal.agg [AVal.int IntKind.i64 s, AVal.int IntKind.i64 q]] [] (AVal.bool false) []) :: (tr 3 ++ [])))) by kernel_rfl) (allP_of (trC 5 ⟨⟨h1, rfl, rfl, rfl⟩, (trC 3 trivial)⟩))).move ([]) (by kernel_rfl) (by kernel_rfl) (by kernel_rfl)

def nfN_T (s : Int) (q : Int) (Q : AVal → AState → Prop) : Prop := (FOk Try.prog 21 [AVal.nilp, AVal.agg [AVal.int IntKind.i64 s, AVal.int IntKind.i64 q]] [] (AVal.bool false) []) ∧ Q (AVal.tuple [AVal.agg [AVal.int IntKind.i64 0, AVal.int IntKind.i64 0, AVal.fsl true 2 [] none], AVal.int IntKind.i64 1]) ([])
theorem nfN_wp (s : Int) (q : Int) {Q : AVal → AState → Prop} (h : nfN_T s q Q) : ∃ r σ', FOk Try.prog 10 ([AVal.nilp, idv s q]) ([]) r σ' ∧ Q r σ' :=
  ⟨_, _, nfN_1 s q (h.1), h.2⟩


theorem nfE_1 (s : Int) (q : Int)
    (h1 : FOk Try.prog 21 [AVal.ptr 0 1 0 0, AVal.agg [AVal.int IntKind.i64 s, AVal.int IntKind.i64 q]] [AObj.rows false 1 [[AVal.nilm]]] (AVal.bool false) [AObj.rows false 1 [[AVal.nilm]]]) :
    FOk Try.prog 10 ([AVal.ptr 0 1 0 0, idv s q]) (Em) (AVal.tuple [AVal.agg [AVal.int IntKind.i64 0, AVal.int IntKind.i64 0, AVal.fsl true 2 [] none], AVal.int IntKind.i64 1]) ([AObj.rows false 1 [[AVal.nilm]]]) :=
  (evalF_ok followed Try.func10 (by kernel_rfl) (show evalF Try.prog Try.f10 ([AVal.ptr 0 1 0 0, idv s q]) (Em) ([Dec.use [0] [AVal.ptr 0 1 0 0, AVal.agg [AVal.int IntKind.i64 s, AVal.int IntKind.i64 q]] [AObj.rows false 1 [[AVal.nilm]]] (AVal.bool false) [AObj.rows false 1 [[AVal.nilm]]], Dec.br true]) = .ok (FRes.mk (AVal.tuple [AVal.agg [AVal.int IntKind.i64 0, AVal.int IntKind.i64 0, AVal.fsl true 2 [] none], AVal.int IntKind.i64 1]) ([AObj.rows false 1 [[AVal.nilm]], AObj.rows true 2 [[AVal.int IntKind.i64 s, AVal.int IntKind.i64 q]], AObj.rows false 3 [[AVal.int IntKind.i64 0, AVal.int IntKind.i64 0, AVal.fsl true 0 [] (some 0)]]]) (tr 5 ++ ((Owed.use (owed Try.prog 1) 21 [0] [AVal.ptr 0 1 0 0, AVal.agg [AVal.int IntKind.i64 s, AVal.int IntKind.i64 q]] [AObj.rows false 1 [[AVal.nilm]], AObj.rows true 2 [[AVal.int IntKind.i64 s, AVal.int IntKind.i64 q]], AObj.rows false 3 [[AVal.int IntKind.i64 0, AVal.int IntKind.i64 0, AVal.fsl true 0 [] (some 0)]]] [AVal.ptr 0 1 0 0, AVal.agg [AVal.int IntKind.i64 s, AVal.int IntKind.i64 q]] [AObj.rows false 1 [[AVal.nilm]]] (AVal.bool false) [AObj.rows false 1 [[AVal.nilm]]]) :: (tr 3 ++ [])))) by kernel_rfl) (allP_of (trC 5 ⟨⟨h1, rfl, rfl, rfl⟩, (trC 3 trivial)⟩))).move ([0]) (by kernel_rfl) (by kernel_rfl) (by kernel_rfl)

def nfE_T (s : Int) (q : Int) (Q : AVal → AState → Prop) : Prop := (FOk Try.prog 21 [AVal.ptr 0 1 0 0, AVal.agg [AVal.int IntKind.i64 s, AVal.int IntKind.i64 q]] [AObj.rows false 1 [[AVal.nilm]]] (AVal.bool false) [AObj.rows false 1 [[AVal.nilm]]]) ∧ Q (AVal.tuple [AVal.agg [AVal.int IntKind.i64 0, AVal.int IntKind.i64 0, AVal.fsl true 2 [] none], AVal.int IntKind.i64 1]) ([AObj.rows false 1 [[AVal.nilm]]])
theorem nfE_wp (s : Int) (q : Int) {Q : AVal → AState → Prop} (h : nfE_T s q Q) : ∃ r σ', FOk Try.prog 10 ([AVal.ptr 0 1 0 0, idv s q]) (Em) r σ' ∧ Q r σ' :=
  ⟨_, _, nfE_1 s q (h.1), h.2⟩


theorem npN_1 (s : Int) (q : Int)
    (h1 : FOk Try.prog 21 [AVal.nilp, AVal.agg [AVal.int IntKind.i64 s, AVal.int IntKind.i64 q]] [] (AVal.bool false) []) :
    FOk Try.prog 11 ([AVal.nilp, idv s q, zr]) ([]) (AVal.int IntKind.i64 1) ([]) :=
  (evalF_ok followed Try.func11 (by kernel_rfl) (show evalF Try.prog Try.f11 ([AVal.nilp, idv s q, zr]) ([]) ([Dec.use [] [AVal.nilp, AVal.agg [AVal.int IntKind.i64 s, AVal.int IntKind.i64 q]] [] (AVal.bool false) [], Dec.br true]) = .ok (FRes.mk (AVal.int IntKind.i64 1) ([AObj.rows true 2 [[AVal.int IntKind.i64 s, AVal.int IntKind.i64 q]], AObj.rows false 3 [[AVal.int IntKind.i64 0, AVal.int IntKind.i64 0, AVal.fsl true 2 [] none]]]) (tr 1 ++ ((Owed.use (owed Try.prog 0) 21 [] [AVal.nilp, AVal.agg [AVal.int IntKind.i64 s, AVal.int IntKind.i64 q]] [AObj.rows true 2 [[AVal.int IntKind.i64 s, AVal.int IntKind.i64 q]], AObj.rows false 3 [[AVal.int IntKind.i64 0, AVal.int IntKind.i64 0, AVal.fsl true 2 [] none]]] [AVal.nilp, AVal.agg [AVal.int IntKind.i64 s, AVal.int IntKind.i64 q]] [] (AVal.bool false) []) :: (tr 3 ++ [])))) by kernel_rfl) (allP_of (trC 1 ⟨⟨h1, rfl, rfl, rfl⟩, (trC 3 trivial)⟩))).move ([]) (by kernel_rfl) (by kernel_rfl) (by kernel_rfl)

def npN_T (s : Int) (q : Int) (Q : AVal → AState → Prop) : Prop := (FOk Try.prog 21 [AVal.nilp, AVal.agg [AVal.int IntKind.i64 s, AVal.int IntKind.i64 q]] [] (AVal.bool false) []) ∧ Q (AVal.int IntKind.i64 1) ([])
theorem npN_wp (s : Int) (q : Int) {Q : AVal → AState → Prop} (h : npN_T s q Q) : ∃ r σ', FOk Try.prog 11 ([AVal.nilp, idv s q, zr]) ([]) r σ' ∧ Q r σ' :=
  ⟨_, _, npN_1 s q (h.1), h.2⟩


theorem npE_1 (s : Int) (q : Int)
    (h1 : FOk Try.prog 21 [AVal.ptr 0 1 0 0, AVal.agg [AVal.int IntKind.i64 s, AVal.int IntKind.i64 q]] [AObj.rows false 1 [[AVal.nilm]]] (AVal.bool false) [AObj.rows false 1 [[AVal.nilm]]]) :
    FOk Try.prog 11 ([AVal.ptr 0 1 0 0, idv s q, zr]) (Em) (AVal.int IntKind.i64 1) ([AObj.rows false 1 [[AVal.nilm]]]) :=
  (evalF_ok followed Try.func11 (by kernel_rfl) (show evalF Try.prog Try.f11 ([AVal.ptr 0 1 0 0, idv s q, zr]) (Em) ([Dec.use [0] [AVal.ptr 0 1 0 0, AVal.agg [AVal.int IntKind.i64 s, AVal.int IntKind.i64 q]] [AObj.rows false 1 [[AVal.nilm]]] (AVal.bool false) [AObj.rows false 1 [[AVal.nilm]]], Dec.br true]) = .ok (FRes.mk (AVal.int IntKind.i64 1) ([AObj.rows false 1 [[AVal.nilm]], AObj.rows true 2 [[AVal.int IntKind.i64 s, AVal.int IntKind.i64 q]], AObj.rows false 3 [[AVal.int IntKind.i64 0, AVal.int IntKind.i64 0, AVal.fsl true 2 [] none]]]) (tr 1 ++ ((Owed.use (owed Try.prog 1) 21 [0] [AVal.ptr 0 1 0 0, AVal.agg [AVal.int IntKind.i64 s, AVal.int IntKind.i64 q]] [AObj.rows false 1 [[AVal.nilm]], AObj.rows true 2 [[AVal.int IntKind.i64 s, AVal.int IntKind.i64 q]], AObj.rows false 3 [[AVal.int IntKind.i64 0, AVal.int IntKind.i64 0, AVal.fsl true 2 [] none]]] [AVal.ptr 0 1 0 0, AVal.agg [AVal.int IntKind.i64 s, AVal.int IntKind.i64 q]] [AObj.rows false 1 [[AVal.nilm]]] (AVal.bool false) [AObj.rows false 1 [[AVal.nilm]]]) :: (tr 3 ++ [])))) by kernel_rfl) (allP_of (trC 1 ⟨⟨h1, rfl, rfl, rfl⟩, (trC 3 trivial)⟩))).move ([0]) (by kernel_rfl) (by kernel_rfl) (by kernel_rfl)

def npE_T (s : Int) (q : Int) (Q : AVal → AState → Prop) : Prop := (FOk Try.prog 21 [AVal.ptr 0 1 0 0, AVal.agg [AVal.int IntKind.i64 s, AVal.int IntKind.i64 q]] [AObj.rows false 1 [[AVal.nilm]]] (AVal.bool false) [AObj.rows false 1 [[AVal.nilm]]]) ∧ Q (AVal.int IntKind.i64 1) ([AObj.rows false 1 [[AVal.nilm]]])
theorem npE_wp (s : Int) (q : Int) {Q : AVal → AState → Prop} (h : npE_T s q Q) : ∃ r σ', FOk Try.prog 11 ([AVal.ptr 0 1 0 0, idv s q, zr]) (Em) r σ' ∧ Q r σ' :=
  ⟨_, _, npE_1 s q (h.1), h.2⟩


theorem nlN_1 :
    FOk Try.prog 12 ([AVal.nilp]) ([]) (AVal.int IntKind.i64 0) ([]) :=
  (evalF_ok followed Try.func12 (by kernel_rfl) (show evalF Try.prog Try.f12 ([AVal.nilp]) ([]) ([Dec.br true]) = .ok (FRes.mk (AVal.int IntKind.i64 0) ([]) (tr 1 ++ [])) by kernel_rfl) (allP_of (trC 1 trivial))).move ([]) (by kernel_rfl) (by kernel_rfl) (by kernel_rfl)

def nlN_T (Q : AVal → AState → Prop) : Prop := Q (AVal.int IntKind.i64 0) ([])
theorem nlN_wp {Q : AVal → AState → Prop} (h : nlN_T Q) : ∃ r σ', FOk Try.prog 12 ([AVal.nilp]) ([]) r σ' ∧ Q r σ' :=
  ⟨_, _, nlN_1, h⟩


theorem nlE_1 :
    FOk Try.prog 12 ([AVal.ptr 0 1 0 0]) (Em) (AVal.int IntKind.i64 0) ([AObj.rows false 1 [[AVal.nilm]]]) :=
  (evalF_ok followed Try.func12 (by kernel_rfl) (show evalF Try.prog Try.f12 ([AVal.ptr 0 1 0 0]) (Em) ([Dec.br false]) = .ok (FRes.mk (AVal.int IntKind.i64 0) ([AObj.rows false 1 [[AVal.nilm]]]) (tr 2 ++ ((false = false) :: []))) by kernel_rfl) (allP_of (trC 2 ⟨rfl, trivial⟩))).move ([0]) (by kernel_rfl) (by kernel_rfl) (by kernel_rfl)

def nlE_T (Q : AVal → AState → Prop) : Prop := Q (AVal.int IntKind.i64 0) ([AObj.rows false 1 [[AVal.nilm]]])
theorem nlE_wp {Q : AVal → AState → Prop} (h : nlE_T Q) : ∃ r σ', FOk Try.prog 12 ([AVal.ptr 0 1 0 0]) (Em) r σ' ∧ Q r σ' :=
  ⟨_, _, nlE_1, h⟩


theorem ncN_1 :
    FOk Try.prog 18 ([AVal.nilp]) ([]) (AVal.nilp) ([]) :=
  (evalF_ok followed Try.func18 (by kernel_rfl) (show evalF Try.prog Try.f18 ([AVal.nilp]) ([]) ([Dec.br true]) = .ok (FRes.mk (AVal.nilp) ([]) (tr 1 ++ [])) by kernel_rfl) (allP_of (trC 1 trivial))).move ([]) (by kernel_rfl) (by kernel_rfl) (by kernel_rfl)

def ncN_T (Q : AVal → AState → Prop) : Prop := Q (AVal.nilp) ([])
theorem ncN_wp {Q : AVal → AState → Prop} (h : ncN_T Q) : ∃ r σ', FOk Try.prog 18 ([AVal.nilp]) ([]) r σ' ∧ Q r σ' :=
  ⟨_, _, ncN_1, h⟩


theorem ncE_1 :
    FOk Try.prog 18 ([AVal.ptr 0 1 0 0]) (Em) (AVal.nilp) ([AObj.rows false 1 [[AVal.nilm]]]) :=
  (evalF_ok followed Try.func18 (by kernel_rfl) (show evalF Try.prog Try.f18 ([AVal.ptr 0 1 0 0]) (Em) ([Dec.br false, Dec.br true]) = .ok (FRes.mk (AVal.nilp) ([AObj.rows false 1 [[AVal.nilm]]]) (tr 3 ++ ((false = false) :: []))) by kernel_rfl) (allP_of (trC 3 ⟨rfl, trivial⟩))).move ([0]) (by kernel_rfl) (by kernel_rfl) (by kernel_rfl)

def ncE_T (Q : AVal → AState → Prop) : Prop := Q (AVal.nilp) ([AObj.rows false 1 [[AVal.nilm]]])
theorem ncE_wp {Q : AVal → AState → Prop} (h : ncE_T Q) : ∃ r σ', FOk Try.prog 18 ([AVal.ptr 0 1 0 0]) (Em) r σ' ∧ Q r σ' :=
  ⟨_, _, ncE_1, h⟩


theorem nL64_1 :
    FOk Try.prog 43 ([AVal.int IntKind.u64 0]) ([]) (AVal.int IntKind.i64 0) ([]) :=
  (evalF_ok followed Try.func43 (by kernel_rfl) (show evalF Try.prog Try.f43 ([AVal.int IntKind.u64 0]) ([]) ([Dec.br false, Dec.br false, Dec.br false]) = .ok (FRes.mk (AVal.int IntKind.i64 0) ([]) (tr 1 ++ ((false = false) :: ((false = false) :: ((false = false) :: []))))) by kernel_rfl) (allP_of (trC 1 ⟨rfl, ⟨rfl, ⟨rfl, trivial⟩⟩⟩))).move ([]) (by kernel_rfl) (by kernel_rfl) (by kernel_rfl)

def nL64_T (Q : AVal → AState → Prop) : Prop := Q (AVal.int IntKind.i64 0) ([])
theorem nL64_wp {Q : AVal → AState → Prop} (h : nL64_T Q) : ∃ r σ', FOk Try.prog 43 ([AVal.int IntKind.u64 0]) ([]) r σ' ∧ Q r σ' :=
  ⟨_, _, nL64_1, h⟩


theorem nLen_1 (n : Int)
    (h1 : FOk Try.prog 43 [AVal.int IntKind.u64 0] [] (AVal.int IntKind.i64 n) []) :
    FOk Try.prog 32 ([AVal.int IntKind.u64 0]) ([]) (AVal.int IntKind.i64 n) ([]) :=
  (evalF_ok followed Try.func32 (by kernel_rfl) (show evalF Try.prog Try.f32 ([AVal.int IntKind.u64 0]) ([]) ([Dec.use [] [AVal.int IntKind.u64 0] [] (AVal.int IntKind.i64 n) []]) = .ok (FRes.mk (AVal.int IntKind.i64 n) ([]) ((Owed.use (owed Try.prog 0) 43 [] [AVal.int IntKind.u64 0] [] [AVal.int IntKind.u64 0] [] (AVal.int IntKind.i64 n) []) :: [])) by kernel_rfl) (allP_of ⟨⟨h1, rfl, rfl, rfl⟩, trivial⟩)).move ([]) (by kernel_rfl) (by kernel_rfl) (by kernel_rfl)

def nLen_T (n : Int) (Q : AVal → AState → Prop) : Prop := (FOk Try.prog 43 [AVal.int IntKind.u64 0] [] (AVal.int IntKind.i64 n) []) ∧ Q (AVal.int IntKind.i64 n) ([])
theorem nLen_wp (n : Int) {Q : AVal → AState → Prop} (h : nLen_T n Q) : ∃ r σ', FOk Try.prog 32 ([AVal.int IntKind.u64 0]) ([]) r σ' ∧ Q r σ' :=
  ⟨_, _, nLen_1 n (h.1), h.2⟩


theorem nins_1 :
    FOk Try.prog 34 ([AVal.fsl true 2 [] none, AVal.int IntKind.i64 0, AVal.int IntKind.i64 0, AVal.func 27 []]) ([]) (AVal.tuple []) ([]) :=
  (evalF_ok followed Try.func34 (by kernel_rfl) (show evalF Try.prog Try.f34 ([AVal.fsl true 2 [] none, AVal.int IntKind.i64 0, AVal.int IntKind.i64 0, AVal.func 27 []]) ([]) ([Dec.unroll 1, Dec.br false]) = .ok (FRes.mk (AVal.tuple []) ([]) ((false = false) :: [])) by kernel_rfl) (allP_of ⟨rfl, trivial⟩)).move ([]) (by kernel_rfl) (by kernel_rfl) (by kernel_rfl)

def nins_T (Q : AVal → AState → Prop) : Prop := Q (AVal.tuple []) ([])
theorem nins_wp {Q : AVal → AState → Prop} (h : nins_T Q) : ∃ r σ', FOk Try.prog 34 ([AVal.fsl true 2 [] none, AVal.int IntKind.i64 0, AVal.int IntKind.i64 0, AVal.func 27 []]) ([]) r σ' ∧ Q r σ' :=
  ⟨_, _, nins_1, h⟩


theorem npdq_1 (n : Int)
    (h1 : FOk Try.prog 34 [AVal.fsl true 2 [] none, AVal.int IntKind.i64 0, AVal.int IntKind.i64 0, AVal.func 27 []] [] (AVal.tuple []) []) :
    FOk Try.prog 31 ([AVal.fsl true 2 [] none, AVal.int IntKind.i64 0, AVal.int IntKind.i64 0, AVal.int IntKind.i64 n, AVal.func 27 []]) ([]) (AVal.tuple []) ([]) :=
  (evalF_ok followed Try.func31 (by kernel_rfl) (show evalF Try.prog Try.f31 ([AVal.fsl true 2 [] none, AVal.int IntKind.i64 0, AVal.int IntKind.i64 0, AVal.int IntKind.i64 n, AVal.func 27 []]) ([]) ([Dec.unroll 1, Dec.br true, Dec.use [] [AVal.fsl true 2 [] none, AVal.int IntKind.i64 0, AVal.int IntKind.i64 0, AVal.func 27 []] [] (AVal.tuple []) []]) = .ok (FRes.mk (AVal.tuple []) ([]) ((Owed.use (owed Try.prog 0) 34 [] [AVal.fsl true 2 [] none, AVal.int IntKind.i64 0, AVal.int IntKind.i64 0, AVal.func 27 []] [] [AVal.fsl true 2 [] none, AVal.int IntKind.i64 0, AVal.int IntKind.i64 0, AVal.func 27 []] [] (AVal.tuple []) []) :: (tr 1 ++ []))) by kernel_rfl) (allP_of ⟨⟨h1, rfl, rfl, rfl⟩, (trC 1 trivial)⟩)).move ([]) (by kernel_rfl) (by kernel_rfl) (by kernel_rfl)

def npdq_T (n : Int) (Q : AVal → AState → Prop) : Prop := (FOk Try.prog 34 [AVal.fsl true 2 [] none, AVal.int IntKind.i64 0, AVal.int IntKind.i64 0, AVal.func 27 []] [] (AVal.tuple []) []) ∧ Q (AVal.tuple []) ([])
theorem npdq_wp (n : Int) {Q : AVal → AState → Prop} (h : npdq_T n Q) : ∃ r σ', FOk Try.prog 31 ([AVal.fsl true 2 [] none, AVal.int IntKind.i64 0, AVal.int IntKind.i64 0, AVal.int IntKind.i64 n, AVal.func 27 []]) ([]) r σ' ∧ Q r σ' :=
  ⟨_, _, npdq_1 n (h.1), h.2⟩


theorem nsort_1 (n : Int)
    (h1 : FOk Try.prog 31 [AVal.fsl true 2 [] none, AVal.int IntKind.i64 0, AVal.int IntKind.i64 0, AVal.int IntKind.i64 n, AVal.func 27 []] [] (AVal.tuple []) [])
    (h2 : FOk Try.prog 32 [AVal.int IntKind.u64 0] [] (AVal.int IntKind.i64 n) []) :
    FOk Try.prog 26 ([AVal.fsl true 2 [] none, AVal.func 27 []]) ([]) (AVal.tuple []) ([]) :=
  (evalF_ok followed Try.func26 (by kernel_rfl) (show evalF Try.prog Try.f26 ([AVal.fsl true 2 [] none, AVal.func 27 []]) ([]) ([Dec.use [] [AVal.int IntKind.u64 0] [] (AVal.int IntKind.i64 n) [], Dec.use [] [AVal.fsl true 2 [] none, AVal.int IntKind.i64 0, AVal.int IntKind.i64 0, AVal.int IntKind.i64 n, AVal.func 27 []] [] (AVal.tuple []) []]) = .ok (FRes.mk (AVal.tuple []) ([]) ((Owed.use (owed Try.prog 0) 31 [] [AVal.fsl true 2 [] none, AVal.int IntKind.i64 0, AVal.int IntKind.i64 0, AVal.int IntKind.i64 n, AVal.func 27 []] [] [AVal.fsl true 2 [] none, AVal.int IntKind.i64 0, AVal.int IntKind.i64 0, AVal.int IntKind.i64 n, AVal.func 27 []] [] (AVal.tuple []) []) :: ((Owed.use (owed Try.prog 0) 32 [] [AVal.int IntKind.u64 0] [] [AVal.int IntKind.u64 0] [] (AVal.int IntKind.i64 n) []) :: []))) by kernel_rfl) (allP_of ⟨⟨h1, rfl, rfl, rfl⟩, ⟨⟨h2, rfl, rfl, rfl⟩, trivial⟩⟩)).move ([]) (by kernel_rfl) (by kernel_rfl) (by kernel_rfl)

def nsort_T (n : Int) (Q : AVal → AState → Prop) : Prop := (FOk Try.prog 32 [AVal.int IntKind.u64 0] [] (AVal.int IntKind.i64 n) []) ∧ (FOk Try.prog 31 [AVal.fsl true 2 [] none, AVal.int IntKind.i64 0, AVal.int IntKind.i64 0, AVal.int IntKind.i64 n, AVal.func 27 []] [] (AVal.tuple []) []) ∧ Q (AVal.tuple []) ([])
theorem nsort_wp (n : Int) {Q : AVal → AState → Prop} (h : nsort_T n Q) : ∃ r σ', FOk Try.prog 26 ([AVal.fsl true 2 [] none, AVal.func 27 []]) ([]) r σ' ∧ Q r σ' :=
  ⟨_, _, nsort_1 n (h.2.1) (h.1), h.2.2⟩


theorem niN_1 :
    FOk Try.prog 20 ([AVal.nilp]) ([]) (AVal.fsl true 2 [] none) ([]) :=
  (evalF_ok followed Try.func20 (by kernel_rfl) (show evalF Try.prog Try.f20 ([AVal.nilp]) ([]) ([Dec.br true]) = .ok (FRes.mk (AVal.fsl true 2 [] none) ([]) (tr 1 ++ [])) by kernel_rfl) (allP_of (trC 1 trivial))).move ([]) (by kernel_rfl) (by kernel_rfl) (by kernel_rfl)

def niN_T (Q : AVal → AState → Prop) : Prop := Q (AVal.fsl true 2 [] none) ([])
theorem niN_wp {Q : AVal → AState → Prop} (h : niN_T Q) : ∃ r σ', FOk Try.prog 20 ([AVal.nilp]) ([]) r σ' ∧ Q r σ' :=
  ⟨_, _, niN_1, h⟩


theorem niE_1
    (h1 : FOk Try.prog 26 [AVal.fsl true 2 [] none, AVal.func 27 []] [] (AVal.tuple []) []) :
    FOk Try.prog 20 ([AVal.ptr 0 1 0 0]) (Em) (AVal.fsl true 2 [] none) ([AObj.rows false 1 [[AVal.nilm]]]) :=
  (evalF_ok followed Try.func20 (by kernel_rfl) (show evalF Try.prog Try.f20 ([AVal.ptr 0 1 0 0]) (Em) ([Dec.br false, Dec.unroll 1, Dec.use [] [AVal.fsl true 2 [] none, AVal.func 27 []] [] (AVal.tuple []) []]) = .ok (FRes.mk (AVal.fsl true 2 [] none) ([AObj.rows false 1 [[AVal.nilm]], AObj.miter none 0 [] 0]) ((Owed.use (owed Try.prog 1) 26 [] [AVal.fsl true 2 [] none, AVal.func 27 []] [AObj.rows false 1 [[AVal.nilm]], AObj.miter none 0 [] 0] [AVal.fsl true 2 [] none, AVal.func 27 []] [] (AVal.tuple []) []) :: (tr 2 ++ ((false = false) :: [])))) by kernel_rfl) (allP_of ⟨⟨h1, rfl, rfl, rfl⟩, (trC 2 ⟨rfl, trivial⟩)⟩)).move ([0]) (by kernel_rfl) (by kernel_rfl) (by kernel_rfl)

def niE_T (Q : AVal → AState → Prop) : Prop := (FOk Try.prog 26 [AVal.fsl true 2 [] none, AVal.func 27 []] [] (AVal.tuple []) []) ∧ Q (AVal.fsl true 2 [] none) ([AObj.rows false 1 [[AVal.nilm]]])
theorem niE_wp {Q : AVal → AState → Prop} (h : niE_T Q) : ∃ r σ', FOk Try.prog 20 ([AVal.ptr 0 1 0 0]) (Em) r σ' ∧ Q r σ' :=
  ⟨_, _, niE_1 (h.1), h.2⟩


theorem nsP_1 :
    FOk Try.prog 14 ([AVal.fsl true 2 [] none, AVal.fsl true 2 [] none]) ([]) (AVal.bool true) ([]) :=
  (evalF_ok followed Try.func14 (by kernel_rfl) (show evalF Try.prog Try.f14 ([AVal.fsl true 2 [] none, AVal.fsl true 2 [] none]) ([]) ([Dec.br false, Dec.unroll 1, Dec.br false]) = .ok (FRes.mk (AVal.bool true) ([]) ((false = false) :: ((false = false) :: []))) by kernel_rfl) (allP_of ⟨rfl, ⟨rfl, trivial⟩⟩)).move ([]) (by kernel_rfl) (by kernel_rfl) (by kernel_rfl)

def nsP_T (Q : AVal → AState → Prop) : Prop := Q (AVal.bool true) ([])
theorem nsP_wp {Q : AVal → AState → Prop} (h : nsP_T Q) : ∃ r σ', FOk Try.prog 14 ([AVal.fsl true 2 [] none, AVal.fsl true 2 [] none]) ([]) r σ' ∧ Q r σ' :=
  ⟨_, _, nsP_1, h⟩


theorem nsm_1
    (h1 : FOk Try.prog 14 [AVal.fsl true 2 [] none, AVal.fsl true 2 [] none] [] (AVal.bool true) []) :
    FOk Try.prog 17 ([zr, zr]) ([]) (AVal.bool true) ([]) :=
  (evalF_ok followed Try.func17 (by kernel_rfl) (show evalF Try.prog Try.f17 ([zr, zr]) ([]) ([Dec.br true, Dec.br true, Dec.use [] [AVal.fsl true 2 [] none, AVal.fsl true 2 [] none] [] (AVal.bool true) []]) = .ok (FRes.mk (AVal.bool true) ([AObj.rows false 3 [[AVal.int IntKind.i64 0, AVal.int IntKind.i64 0, AVal.fsl true 2 [] none]], AObj.rows false 3 [[AVal.int IntKind.i64 0, AVal.int IntKind.i64 0, AVal.fsl true 2 [] none]]]) ((Owed.use (owed Try.prog 0) 14 [] [AVal.fsl true 2 [] none, AVal.fsl true 2 [] none] [AObj.rows false 3 [[AVal.int IntKind.i64 0, AVal.int IntKind.i64 0, AVal.fsl true 2 [] none]], AObj.rows false 3 [[AVal.int IntKind.i64 0, AVal.int IntKind.i64 0, AVal.fsl true 2 [] none]]] [AVal.fsl true 2 [] none, AVal.fsl true 2 [] none] [] (AVal.bool true) []) :: (tr 14 ++ []))) by kernel_rfl) (allP_of ⟨⟨h1, rfl, rfl, rfl⟩, (trC 14 trivial)⟩)).move ([]) (by kernel_rfl) (by kernel_rfl) (by kernel_rfl)

def nsm_T (Q : AVal → AState → Prop) : Prop := (FOk Try.prog 14 [AVal.fsl true 2 [] none, AVal.fsl true 2 [] none] [] (AVal.bool true) []) ∧ Q (AVal.bool true) ([])
theorem nsm_wp {Q : AVal → AState → Prop} (h : nsm_T Q) : ∃ r σ', FOk Try.prog 17 ([zr, zr]) ([]) r σ' ∧ Q r σ' :=
  ⟨_, _, nsm_1 (h.1), h.2⟩


theorem nob_1 (s : Int) (q : Int)
    (h1 : FOk Try.prog 13 [] [] (AVal.bool true) [])
    (h2 : FOk Try.prog 18 [AVal.ptr 0 1 0 0] [AObj.rows false 1 [[AVal.nilm]]] AVal.nilp [AObj.rows false 1 [[AVal.nilm]]])
    (h3 : FOk Try.prog 20 [AVal.ptr 0 1 0 0] [AObj.rows false 1 [[AVal.nilm]]] (AVal.fsl true 2 [] none) [AObj.rows false 1 [[AVal.nilm]]])
    (h4 : FOk Try.prog 12 [AVal.ptr 0 1 0 0] [AObj.rows false 1 [[AVal.nilm]]] (AVal.int IntKind.i64 0) [AObj.rows false 1 [[AVal.nilm]]])
    (h5 : FOk Try.prog 11 [AVal.ptr 0 1 0 0, AVal.agg [AVal.int IntKind.i64 s, AVal.int IntKind.i64 q], AVal.agg [AVal.int IntKind.i64 0, AVal.int IntKind.i64 0, AVal.fsl true 2 [] none]] [AObj.rows false 1 [[AVal.nilm]]] (AVal.int IntKind.i64 1) [AObj.rows false 1 [[AVal.nilm]]])
    (h6 : FOk Try.prog 17 [AVal.agg [AVal.int IntKind.i64 0, AVal.int IntKind.i64 0, AVal.fsl true 2 [] none], AVal.agg [AVal.int IntKind.i64 0, AVal.int IntKind.i64 0, AVal.fsl true 2 [] none]] [] (AVal.bool true) [])
    (h7 : FOk Try.prog 10 [AVal.ptr 0 1 0 0, AVal.agg [AVal.int IntKind.i64 s, AVal.int IntKind.i64 q]] [AObj.rows false 1 [[AVal.nilm]]] (AVal.tuple [AVal.agg [AVal.int IntKind.i64 0, AVal.int IntKind.i64 0, AVal.fsl true 2 [] none], AVal.int IntKind.i64 1]) [AObj.rows false 1 [[AVal.nilm]]])
    (h8 : FOk Try.prog 18 [AVal.nilp] [] AVal.nilp [])
    (h9 : FOk Try.prog 20 [AVal.nilp] [] (AVal.fsl true 2 [] none) [])
    (h10 : FOk Try.prog 12 [AVal.nilp] [] (AVal.int IntKind.i64 0) [])
    (h11 : FOk Try.prog 11 [AVal.nilp, AVal.agg [AVal.int IntKind.i64 s, AVal.int IntKind.i64 q], AVal.agg [AVal.int IntKind.i64 0, AVal.int IntKind.i64 0, AVal.fsl true 2 [] none]] [] (AVal.int IntKind.i64 1) [])
    (h12 : FOk Try.prog 10 [AVal.nilp, AVal.agg [AVal.int IntKind.i64 s, AVal.int IntKind.i64 q]] [] (AVal.tuple [AVal.agg [AVal.int IntKind.i64 0, AVal.int IntKind.i64 0, AVal.fsl true 2 [] none], AVal.int IntKind.i64 1]) []) :
    FOk Try.prog 8 ([idv s q]) ([]) (AVal.bool true) ([]) :=
  (evalF_ok followed Try.func8 (by kernel_rfl) (show evalF Try.prog Try.f8 ([idv s q]) ([]) ([Dec.unroll 3, Dec.br true, Dec.use [] [AVal.nilp, AVal.agg [AVal.int IntKind.i64 s, AVal.int IntKind.i64 q]] [] (AVal.tuple [zr, AVal.int IntKind.i64 1]) [], Dec.use [] [AVal.agg [AVal.int IntKind.i64 0, AVal.int IntKind.i64 0, AVal.fsl true 2 [] none], AVal.agg [AVal.int IntKind.i64 0, AVal.int IntKind.i64 0, AVal.fsl true 2 [] none]] [] (AVal.bool true) [], Dec.br false, Dec.br false, Dec.use [] [AVal.nilp, AVal.agg [AVal.int IntKind.i64 s, AVal.int IntKind.i64 q], AVal.agg [AVal.int IntKind.i64 0, AVal.int IntKind.i64 0, AVal.fsl true 2 [] none]] [] (AVal.int IntKind.i64 1) [], Dec.br false, Dec.use [] [AVal.nilp] [] (AVal.int IntKind.i64 0) [], Dec.br false, Dec.use [] [AVal.nilp] [] (AVal.fsl true 2 [] none) [], Dec.br false, Dec.use [] [AVal.nilp] [] AVal.nilp [], Dec.br false, Dec.br true, Dec.use [1] [AVal.ptr 0 1 0 0, AVal.agg [AVal.int IntKind.i64 s, AVal.int IntKind.i64 q]] [AObj.rows false 1 [[AVal.nilm]]] (AVal.tuple [zr, AVal.int IntKind.i64 1]) [AObj.rows false 1 [[AVal.nilm]]], Dec.use [] [AVal.agg [AVal.int IntKind.i64 0, AVal.int IntKind.i64 0, AVal.fsl true 2 [] none], AVal.agg [AVal.int IntKind.i64 0, AVal.int IntKind.i64 0, AVal.fsl true 2 [] none]] [] (AVal.bool true) [], Dec.br false, Dec.br false, Dec.use [1] [AVal.ptr 0 1 0 0, AVal.agg [AVal.int IntKind.i64 s, AVal.int IntKind.i64 q], AVal.agg [AVal.int IntKind.i64 0, AVal.int IntKind.i64 0, AVal.fsl true 2 [] none]] [AObj.rows false 1 [[AVal.nilm]]] (AVal.int IntKind.i64 1) [AObj.rows false 1 [[AVal.nilm]]], Dec.br false, Dec.use [1] [AVal.ptr 0 1 0 0] [AObj.rows false 1 [[AVal.nilm]]] (AVal.int IntKind.i64 0) [AObj.rows false 1 [[AVal.nilm]]], Dec.br false, Dec.use [1] [AVal.ptr 0 1 0 0] [AObj.rows false 1 [[AVal.nilm]]] (AVal.fsl true 2 [] none) [AObj.rows false 1 [[AVal.nilm]]], Dec.br false, Dec.use [1] [AVal.ptr 0 1 0 0] [AObj.rows false 1 [[AVal.nilm]]] AVal.nilp [AObj.rows false 1 [[AVal.nilm]]], Dec.br false, Dec.br false, Dec.use [] [] [] (AVal.bool true) []]) = .ok (FRes.mk (AVal.bool true) ([AObj.rows true 2 [[AVal.int IntKind.i64 s, AVal.int IntKind.i64 q]], AObj.rows false 1 [[AVal.nilm]], AObj.rows false 1 [[AVal.nilp], [AVal.ptr 1 1 0 0]], AObj.rows false 3 [[AVal.int IntKind.i64 0, AVal.int IntKind.i64 0, AVal.fsl true 2 [] none]], AObj.rows false 3 [[AVal.int IntKind.i64 0, AVal.int IntKind.i64 0, AVal.fsl true 2 [] none]]]) ((Owed.use (owed Try.prog 0) 13 [] [] [AObj.rows true 2 [[AVal.int IntKind.i64 s, AVal.int IntKind.i64 q]], AObj.rows false 1 [[AVal.nilm]], AObj.rows false 1 [[AVal.nilp], [AVal.ptr 1 1 0 0]], AObj.rows false 3 [[AVal.int IntKind.i64 0, AVal.int IntKind.i64 0, AVal.fsl true 2 [] none]], AObj.rows false 3 [[AVal.int IntKind.i64 0, AVal.int IntKind.i64 0, AVal.fsl true 2 [] none]]] [] [] (AVal.bool true) []) :: ((false = false) :: ((false = false) :: (tr 6 ++ ((Owed.use (owed Try.prog 0) 18 [1] [AVal.ptr 1 1 0 0] [AObj.rows true 2 [[AVal.int IntKind.i64 s, AVal.int IntKind.i64 q]], AObj.rows false 1 [[AVal.nilm]], AObj.rows false 1 [[AVal.nilp], [AVal.ptr 1 1 0 0]], AObj.rows false 3 [[AVal.int IntKind.i64 0, AVal.int IntKind.i64 0, AVal.fsl true 2 [] none]], AObj.rows false 3 [[AVal.int IntKind.i64 0, AVal.int IntKind.i64 0, AVal.fsl true 2 [] none]]] [AVal.ptr 0 1 0 0] [AObj.rows false 1 [[AVal.nilm]]] AVal.nilp [AObj.rows false 1 [[AVal.nilm]]]) :: (tr 11 ++ ((false = false) :: (tr 10 ++ ((Owed.use (owed Try.prog 0) 20 [1] [AVal.ptr 1 1 0 0] [AObj.rows true 2 [[AVal.int IntKind.i64 s, AVal.int IntKind.i64 q]], AObj.rows false 1 [[AVal.nilm]], AObj.rows false 1 [[AVal.nilp], [AVal.ptr 1 1 0 0]], AObj.rows false 3 [[AVal.int IntKind.i64 0, AVal.int IntKind.i64 0, AVal.fsl true 2 [] none]], AObj.rows false 3 [[AVal.int IntKind.i64 0, AVal.int IntKind.i64 0, AVal.fsl true 2 [] none]]] [AVal.ptr 0 1 0 0] [AObj.rows false 1 [[AVal.nilm]]] (AVal.fsl true 2 [] none) [AObj.rows false 1 [[AVal.nilm]]]) :: (tr 11 ++ ((false = false) :: (tr 8 ++ ((Owed.use (owed Try.prog 0) 12 [1] [AVal.ptr 1 1 0 0] [AObj.rows true 2 [[AVal.int IntKind.i64 s, AVal.int IntKind.i64 q]], AObj.rows false 1 [[AVal.nilm]], AObj.rows false 1 [[AVal.nilp], [AVal.ptr 1 1 0 0]], AObj.rows false 3 [[AVal.int IntKind.i64 0, AVal.int IntKind.i64 0, AVal.fsl true 2 [] none]], AObj.rows false 3 [[AVal.int IntKind.i64 0, AVal.int IntKind.i64 0, AVal.fsl true 2 [] none]]] [AVal.ptr 0 1 0 0] [AObj.rows false 1 [[AVal.nilm]]] (AVal.int IntKind.i64 0) [AObj.rows false 1 [[AVal.nilm]]]) :: (tr 11 ++ ((false = false) :: (tr 8 ++ ((Owed.use (owed Try.prog 0) 11 [1] [AVal.ptr 1 1 0 0, AVal.agg [AVal.int IntKind.i64 s, AVal.int IntKind.i64 q], AVal.agg [AVal.int IntKind.i64 0, AVal.int IntKind.i64 0, AVal.fsl true 2 [] none]] [AObj.rows true 2 [[AVal.int IntKind.i64 s, AVal.int IntKind.i64 q]], AObj.rows false 1 [[AVal.nilm]], AObj.rows false 1 [[AVal.nilp], [AVal.ptr 1 1 0 0]], AObj.rows false 3 [[AVal.int IntKind.i64 0, AVal.int IntKind.i64 0, AVal.fsl true 2 [] none]], AObj.rows false 3 [[AVal.int IntKind.i64 0, AVal.int IntKind.i64 0, AVal.fsl true 2 [] none]]] [AVal.ptr 0 1 0 0, AVal.agg [AVal.int IntKind.i64 s, AVal.int IntKind.i64 q], AVal.agg [AVal.int IntKind.i64 0, AVal.int IntKind.i64 0, AVal.fsl true 2 [] none]] [AObj.rows false 1 [[AVal.nilm]]] (AVal.int IntKind.i64 1) [AObj.rows false 1 [[AVal.nilm]]]) :: (tr 22 ++ ((false = false) :: (tr 8 ++ ((false = false) :: (tr 6 ++ ((Owed.use (owed Try.prog 0) 17 [] [AVal.agg [AVal.int IntKind.i64 0, AVal.int IntKind.i64 0, AVal.fsl true 2 [] none], AVal.agg [AVal.int IntKind.i64 0, AVal.int IntKind.i64 0, AVal.fsl true 2 [] none]] [AObj.rows true 2 [[AVal.int IntKind.i64 s, AVal.int IntKind.i64 q]], AObj.rows false 1 [[AVal.nilm]], AObj.rows false 1 [[AVal.nilp], [AVal.ptr 1 1 0 0]], AObj.rows false 3 [[AVal.int IntKind.i64 0, AVal.int IntKind.i64 0, AVal.fsl true 2 [] none]], AObj.rows false 3 [[AVal.int IntKind.i64 0, AVal.int IntKind.i64 0, AVal.fsl true 2 [] none]]] [AVal.agg [AVal.int IntKind.i64 0, AVal.int IntKind.i64 0, AVal.fsl true 2 [] none], AVal.agg [AVal.int IntKind.i64 0, AVal.int IntKind.i64 0, AVal.fsl true 2 [] none]] [] (AVal.bool true) []) :: (tr 24 ++ ((Owed.use (owed Try.prog 0) 10 [1] [AVal.ptr 1 1 0 0, AVal.agg [AVal.int IntKind.i64 s, AVal.int IntKind.i64 q]] [AObj.rows true 2 [[AVal.int IntKind.i64 s, AVal.int IntKind.i64 q]], AObj.rows false 1 [[AVal.nilm]], AObj.rows false 1 [[AVal.nilp], [AVal.ptr 1 1 0 0]], AObj.rows false 3 [[AVal.int IntKind.i64 0, AVal.int IntKind.i64 0, AVal.fsl true 2 [] none]]] [AVal.ptr 0 1 0 0, AVal.agg [AVal.int IntKind.i64 s, AVal.int IntKind.i64 q]] [AObj.rows false 1 [[AVal.nilm]]] (AVal.tuple [AVal.agg [AVal.int IntKind.i64 0, AVal.int IntKind.i64 0, AVal.fsl true 2 [] none], AVal.int IntKind.i64 1]) [AObj.rows false 1 [[AVal.nilm]]]) :: (tr 22 ++ ((false = false) :: (tr 6 ++ ((Owed.use (owed Try.prog 0) 18 [] [AVal.nilp] [AObj.rows true 2 [[AVal.int IntKind.i64 s, AVal.int IntKind.i64 q]], AObj.rows false 1 [[AVal.nilm]], AObj.rows false 1 [[AVal.nilp], [AVal.ptr 1 1 0 0]], AObj.rows false 3 [[AVal.int IntKind.i64 0, AVal.int IntKind.i64 0, AVal.fsl true 2 [] none]]] [AVal.nilp] [] AVal.nilp []) :: (tr 11 ++ ((false = false) :: (tr 10 ++ ((Owed.use (owed Try.prog 0) 20 [] [AVal.nilp] [AObj.rows true 2 [[AVal.int IntKind.i64 s, AVal.int IntKind.i64 q]], AObj.rows false 1 [[AVal.nilm]], AObj.rows false 1 [[AVal.nilp], [AVal.ptr 1 1 0 0]], AObj.rows false 3 [[AVal.int IntKind.i64 0, AVal.int IntKind.i64 0, AVal.fsl true 2 [] none]]] [AVal.nilp] [] (AVal.fsl true 2 [] none) []) :: (tr 11 ++ ((false = false) :: (tr 8 ++ ((Owed.use (owed Try.prog 0) 12 [] [AVal.nilp] [AObj.rows true 2 [[AVal.int IntKind.i64 s, AVal.int IntKind.i64 q]], AObj.rows false 1 [[AVal.nilm]], AObj.rows false 1 [[AVal.nilp], [AVal.ptr 1 1 0 0]], AObj.rows false 3 [[AVal.int IntKind.i64 0, AVal.int IntKind.i64 0, AVal.fsl true 2 [] none]]] [AVal.nilp] [] (AVal.int IntKind.i64 0) []) :: (tr 11 ++ ((false = false) :: (tr 8 ++ ((Owed.use (owed Try.prog 0) 11 [] [AVal.nilp, AVal.agg [AVal.int IntKind.i64 s, AVal.int IntKind.i64 q], AVal.agg [AVal.int IntKind.i64 0, AVal.int IntKind.i64 0, AVal.fsl true 2 [] none]] [AObj.rows true 2 [[AVal.int IntKind.i64 s, AVal.int IntKind.i64 q]], AObj.rows false 1 [[AVal.nilm]], AObj.rows false 1 [[AVal.nilp], [AVal.ptr 1 1 0 0]], AObj.rows false 3 [[AVal.int IntKind.i64 0, AVal.int IntKind.i64 0, AVal.fsl true 2 [] none]]] [AVal.nilp, AVal.agg [AVal.int IntKind.i64 s, AVal.int IntKind.i64 q], AVal.agg [AVal.int IntKind.i64 0, AVal.int IntKind.i64 0, AVal.fsl true 2 [] none]] [] (AVal.int IntKind.i64 1) []) :: (tr 22 ++ ((false = false) :: (tr 8 ++ ((false = false) :: (tr 6 ++ ((Owed.use (owed Try.prog 0) 17 [] [AVal.agg [AVal.int IntKind.i64 0, AVal.int IntKind.i64 0, AVal.fsl true 2 [] none], AVal.agg [AVal.int IntKind.i64 0, AVal.int IntKind.i64 0, AVal.fsl true 2 [] none]] [AObj.rows true 2 [[AVal.int IntKind.i64 s, AVal.int IntKind.i64 q]], AObj.rows false 1 [[AVal.nilm]], AObj.rows false 1 [[AVal.nilp], [AVal.ptr 1 1 0 0]], AObj.rows false 3 [[AVal.int IntKind.i64 0, AVal.int IntKind.i64 0, AVal.fsl true 2 [] none]]] [AVal.agg [AVal.int IntKind.i64 0, AVal.int IntKind.i64 0, AVal.fsl true 2 [] none], AVal.agg [AVal.int IntKind.i64 0, AVal.int IntKind.i64 0, AVal.fsl true 2 [] none]] [] (AVal.bool true) []) :: (tr 24 ++ ((Owed.use (owed Try.prog 0) 10 [] [AVal.nilp, AVal.agg [AVal.int IntKind.i64 s, AVal.int IntKind.i64 q]] [AObj.rows true 2 [[AVal.int IntKind.i64 s, AVal.int IntKind.i64 q]], AObj.rows false 1 [[AVal.nilm]], AObj.rows false 1 [[AVal.nilp], [AVal.ptr 1 1 0 0]]] [AVal.nilp, AVal.agg [AVal.int IntKind.i64 s, AVal.int IntKind.i64 q]] [] (AVal.tuple [AVal.agg [AVal.int IntKind.i64 0, AVal.int IntKind.i64 0, AVal.fsl true 2 [] none], AVal.int IntKind.i64 1]) []) :: (tr 22 ++ []))))))))))))))))))))))))))))))))))))))))))))))))))) by kernel_rfl) (allP_of ⟨⟨h1, rfl, rfl, rfl⟩, ⟨rfl, ⟨rfl, (trC 6 ⟨⟨h2, rfl, rfl, rfl⟩, (trC 11 ⟨rfl, (trC 10 ⟨⟨h3, rfl, rfl, rfl⟩, (trC 11 ⟨rfl, (trC 8 ⟨⟨h4, rfl, rfl, rfl⟩, (trC 11 ⟨rfl, (trC 8 ⟨⟨h5, rfl, rfl, rfl⟩, (trC 22 ⟨rfl, (trC 8 ⟨rfl, (trC 6 ⟨⟨h6, rfl, rfl, rfl⟩, (trC 24 ⟨⟨h7, rfl, rfl, rfl⟩, (trC 22 ⟨rfl, (trC 6 ⟨⟨h8, rfl, rfl, rfl⟩, (trC 11 ⟨rfl, (trC 10 ⟨⟨h9, rfl, rfl, rfl⟩, (trC 11 ⟨rfl, (trC 8 ⟨⟨h10, rfl, rfl, rfl⟩, (trC 11 ⟨rfl, (trC 8 ⟨⟨h11, rfl, rfl, rfl⟩, (trC 22 ⟨rfl, (trC 8 ⟨rfl, (trC 6 ⟨⟨h6, rfl, rfl, rfl⟩, (trC 24 ⟨⟨h12, rfl, rfl, rfl⟩, (trC 22 trivial)⟩)⟩)⟩)⟩)⟩)⟩)⟩)⟩)⟩)⟩)⟩)⟩)⟩)⟩)⟩)⟩)⟩)⟩)⟩)⟩)⟩)⟩)⟩)⟩⟩⟩)).move ([]) (by kernel_rfl) (by kernel_rfl) (by kernel_rfl)

def nob_T (s : Int) (q : Int) (Q : AVal → AState → Prop) : Prop := (FOk Try.prog 10 [AVal.nilp, AVal.agg [AVal.int IntKind.i64 s, AVal.int IntKind.i64 q]] [] (AVal.tuple [AVal.agg [AVal.int IntKind.i64 0, AVal.int IntKind.i64 0, AVal.fsl true 2 [] none], AVal.int IntKind.i64 1]) []) ∧ (FOk Try.prog 17 [AVal.agg [AVal.int IntKind.i64 0, AVal.int IntKind.i64 0, AVal.fsl true 2 [] none], AVal.agg [AVal.int IntKind.i64 0, AVal.int IntKind.i64 0, AVal.fsl true 2 [] none]] [] (AVal.bool true) []) ∧ (FOk Try.prog 11 [AVal.nilp, AVal.agg [AVal.int IntKind.i64 s, AVal.int IntKind.i64 q], AVal.agg [AVal.int IntKind.i64 0, AVal.int IntKind.i64 0, AVal.fsl true 2 [] none]] [] (AVal.int IntKind.i64 1) []) ∧ (FOk Try.prog 12 [AVal.nilp] [] (AVal.int IntKind.i64 0) []) ∧ (FOk Try.prog 20 [AVal.nilp] [] (AVal.fsl true 2 [] none) []) ∧ (FOk Try.prog 18 [AVal.nilp] [] AVal.nilp []) ∧ (FOk Try.prog 10 [AVal.ptr 0 1 0 0, AVal.agg [AVal.int IntKind.i64 s, AVal.int IntKind.i64 q]] [AObj.rows false 1 [[AVal.nilm]]] (AVal.tuple [AVal.agg [AVal.int IntKind.i64 0, AVal.int IntKind.i64 0, AVal.fsl true 2 [] none], AVal.int IntKind.i64 1]) [AObj.rows false 1 [[AVal.nilm]]]) ∧ (FOk Try.prog 11 [AVal.ptr 0 1 0 0, AVal.agg [AVal.int IntKind.i64 s, AVal.int IntKind.i64 q], AVal.agg [AVal.int IntKind.i64 0, AVal.int IntKind.i64 0, AVal.fsl true 2 [] none]] [AObj.rows false 1 [[AVal.nilm]]] (AVal.int IntKind.i64 1) [AObj.rows false 1 [[AVal.nilm]]]) ∧ (FOk Try.prog 12 [AVal.ptr 0 1 0 0] [AObj.rows false 1 [[AVal.nilm]]] (AVal.int IntKind.i64 0) [AObj.rows false 1 [[AVal.nilm]]]) ∧ (FOk Try.prog 20 [AVal.ptr 0 1 0 0] [AObj.rows false 1 [[AVal.nilm]]] (AVal.fsl true 2 [] none) [AObj.rows false 1 [[AVal.nilm]]]) ∧ (FOk Try.prog 18 [AVal.ptr 0 1 0 0] [AObj.rows false 1 [[AVal.nilm]]] AVal.nilp [AObj.rows false 1 [[AVal.nilm]]]) ∧ (FOk Try.prog 13 [] [] (AVal.bool true) []) ∧ Q (AVal.bool true) ([])
theorem nob_wp (s : Int) (q : Int) {Q : AVal → AState → Prop} (h : nob_T s q Q) : ∃ r σ', FOk Try.prog 8 ([idv s q]) ([]) r σ' ∧ Q r σ' :=
  ⟨_, _, nob_1 s q (h.2.2.2.2.2.2.2.2.2.2.2.1) (h.2.2.2.2.2.2.2.2.2.2.1) (h.2.2.2.2.2.2.2.2.2.1) (h.2.2.2.2.2.2.2.2.1) (h.2.2.2.2.2.2.2.1) (h.2.1) (h.2.2.2.2.2.2.1) (h.2.2.2.2.2.1) (h.2.2.2.2.1) (h.2.2.2.1) (h.2.2.1) (h.1), h.2.2.2.2.2.2.2.2.2.2.2.2⟩


end Go.L11
end

section
set_option linter.unusedVariables false
set_option linter.unusedSimpArgs false
set_option maxRecDepth 100000
namespace Go.L11
open Go Go.Abs Go.Proofs
theorem nobody_law (s q : Int) : FOk Try.prog 8 [idv s q] [] (.bool true) [] := by
  have gN : FOk Try.prog 21 [.nilp, idv s q] [] (.bool false) [] := FOk.wp (ngN_wp s q ⟨rfl, rfl⟩)
  have gE : FOk Try.prog 21 [.ptr 0 1 0 0, idv s q] Em (.bool false) Em := FOk.wp (ngE_wp s q ⟨rfl, rfl⟩)
  have sm : FOk Try.prog 17 [zr, zr] [] (.bool true) [] := FOk.wp (nsm_wp ⟨FOk.wp (nsP_wp ⟨rfl, rfl⟩), rfl, rfl⟩)
  have ln : FOk Try.prog 32 [.int .u64 0] [] (.int .i64 0) [] := FOk.wp (nLen_wp 0 ⟨FOk.wp (nL64_wp ⟨rfl, rfl⟩), rfl, rfl⟩)
  have pd : FOk Try.prog 31 [.fsl true 2 [] none, .int .i64 0, .int .i64 0, .int .i64 0, .func 27 []] [] (.tuple []) [] := FOk.wp (npdq_wp 0 ⟨FOk.wp (nins_wp ⟨rfl, rfl⟩), rfl, rfl⟩)
  have so : FOk Try.prog 26 [.fsl true 2 [] none, .func 27 []] [] (.tuple []) [] := FOk.wp (nsort_wp 0 ⟨ln, pd, rfl, rfl⟩)
  refine FOk.wp (nob_wp s q ?_)
  unfold nob_T
  exact ⟨FOk.wp (nfN_wp s q ⟨gN, rfl, rfl⟩), sm, FOk.wp (npN_wp s q ⟨gN, rfl, rfl⟩), FOk.wp (nlN_wp ⟨rfl, rfl⟩), FOk.wp (niN_wp ⟨rfl, rfl⟩), FOk.wp (ncN_wp ⟨rfl, rfl⟩),
    FOk.wp (nfE_wp s q ⟨gE, rfl, rfl⟩), FOk.wp (npE_wp s q ⟨gE, rfl, rfl⟩), FOk.wp (nlE_wp ⟨rfl, rfl⟩), FOk.wp (niE_wp ⟨so, rfl, rfl⟩), FOk.wp (ncE_wp ⟨rfl, rfl⟩), awake_ok, rfl, rfl⟩
theorem nobody_row (xs : List AVal) (h : okArgs Try.prog Try.f8.params.toList [[.int .i64, .int .i64]] xs) : ∃ σ', FOk Try.prog 8 xs [] (.bool true) σ' := by
  obtain ⟨a, bs, rfl, h1, h2⟩ := h
  cases h2
  unfold okArg at h1
  rw [if_pos (by kernel_rfl)] at h1
  obtain ⟨cs, rfl, h⟩ := h1
  simp only [okKs, okK] at h
  obtain ⟨v, us, rfl, ⟨s, rfl, _⟩, h⟩ := h
  obtain ⟨v, us, rfl, ⟨q, rfl, _⟩, h⟩ := h
  subst h
  exact ⟨_, nobody_law s q⟩
end Go.L11
end

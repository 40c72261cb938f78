import Derived.Test.YtjkmndfipanalaaL12g2
section
set_option linter.unusedVariables false
set_option maxRecDepth 100000
namespace Go.L12
open Go Go.Abs Go.Proofs
theorem ccuts_1 (x0 x1 x2 x3 : Int) (x4 x5 x6 x7 x8 x9 : ByteArray) (x10 x11 x12 x13 x14 x15 x16 : Int) (x17 : Bool) (x18 : Int) (x19 s : ByteArray) (e cut by_ : Int) (b1 b2 : Bool)
    (h1 : FOk Try.prog 14 [] [] (AVal.bool true) [])
    (h2 : (!b1) = true)
    (h3 : FOk Try.prog 12 [AVal.agg (rQ x3 x4 x5 x6 x7 x8 x9 x10 x11)] [] (AVal.bool b1) []) :
    FOk Try.prog 5 ([AVal.agg (rC x0 x1 x2 x3 x4 x5 x6 x7 x8 x9 x10 x11 x12 x13 x14 x15 x16 x17 x18 x19), AVal.int IntKind.i64 cut, AVal.int IntKind.i64 by_]) ([]) (AVal.bool true) ([]) :=
  (evalF_ok followed Try.func5 (by kernel_rfl) (show evalF Try.prog Try.f5 ([AVal.agg (rC x0 x1 x2 x3 x4 x5 x6 x7 x8 x9 x10 x11 x12 x13 x14 x15 x16 x17 x18 x19), AVal.int IntKind.i64 cut, AVal.int IntKind.i64 by_]) ([]) ([Dec.use [] [AVal.agg (rQ x3 x4 x5 x6 x7 x8 x9 x10 x11)] [] (AVal.bool b1) [], Dec.br true, Dec.use [] [] [] (AVal.bool true) []]) = .ok (FRes.mk (AVal.bool true) ([AObj.rows true 20 [(rC x0 x1 x2 x3 x4 x5 x6 x7 x8 x9 x10 x11 x12 x13 x14 x15 x16 x17 x18 x19)]]) ((Owed.use (owed Try.prog 0) 14 [] [] [AObj.rows true 20 [(rC x0 x1 x2 x3 x4 x5 x6 x7 x8 x9 x10 x11 x12 x13 x14 x15 x16 x17 x18 x19)]] [] [] (AVal.bool true) []) :: (((!b1) = true) :: ((Owed.use (owed Try.prog 0) 12 [] [AVal.agg (rQ x3 x4 x5 x6 x7 x8 x9 x10 x11)] [AObj.rows true 20 [(rC x0 x1 x2 x3 x4 x5 x6 x7 x8 x9 x10 x11 x12 x13 x14 x15 x16 x17 x18 x19)]] [AVal.agg (rQ x3 x4 x5 x6 x7 x8 x9 x10 x11)] [] (AVal.bool b1) []) :: (tr 3 ++ []))))) by kernel_rfl) (allP_of ⟨⟨h1, rfl, rfl, rfl⟩, ⟨h2, ⟨⟨h3, rfl, rfl, rfl⟩, (trC 3 trivial)⟩⟩⟩)).move ([]) (by kernel_rfl) (by kernel_rfl) (by kernel_rfl)

theorem ccuts_2 (x0 x1 x2 x3 : Int) (x4 x5 x6 x7 x8 x9 : ByteArray) (x10 x11 x12 x13 x14 x15 x16 : Int) (x17 : Bool) (x18 : Int) (x19 s : ByteArray) (e cut by_ : Int) (b1 b2 : Bool)
    (h1 : FOk Try.prog 14 [] [] (AVal.bool true) [])
    (h2 : (!b2) = true)
    (h3 : FOk Try.prog 13 [AVal.str x19] [] (AVal.bool b2) [])
    (h4 : (!b1) = false)
    (h5 : FOk Try.prog 12 [AVal.agg (rQ x3 x4 x5 x6 x7 x8 x9 x10 x11)] [] (AVal.bool b1) []) :
    FOk Try.prog 5 ([AVal.agg (rC x0 x1 x2 x3 x4 x5 x6 x7 x8 x9 x10 x11 x12 x13 x14 x15 x16 x17 x18 x19), AVal.int IntKind.i64 cut, AVal.int IntKind.i64 by_]) ([]) (AVal.bool true) ([]) :=
  (evalF_ok followed Try.func5 (by kernel_rfl) (show evalF Try.prog Try.f5 ([AVal.agg (rC x0 x1 x2 x3 x4 x5 x6 x7 x8 x9 x10 x11 x12 x13 x14 x15 x16 x17 x18 x19), AVal.int IntKind.i64 cut, AVal.int IntKind.i64 by_]) ([]) ([Dec.use [] [AVal.agg (rQ x3 x4 x5 x6 x7 x8 x9 x10 x11)] [] (AVal.bool b1) [], Dec.br false, Dec.use [] [AVal.str x19] [] (AVal.bool b2) [], Dec.br true, Dec.use [] [] [] (AVal.bool true) []]) = .ok (FRes.mk (AVal.bool true) ([AObj.rows true 20 [(rC x0 x1 x2 x3 x4 x5 x6 x7 x8 x9 x10 x11 x12 x13 x14 x15 x16 x17 x18 x19)]]) ((Owed.use (owed Try.prog 0) 14 [] [] [AObj.rows true 20 [(rC x0 x1 x2 x3 x4 x5 x6 x7 x8 x9 x10 x11 x12 x13 x14 x15 x16 x17 x18 x19)]] [] [] (AVal.bool true) []) :: (((!b2) = true) :: ((Owed.use (owed Try.prog 0) 13 [] [AVal.str x19] [AObj.rows true 20 [(rC x0 x1 x2 x3 x4 x5 x6 x7 x8 x9 x10 x11 x12 x13 x14 x15 x16 x17 x18 x19)]] [AVal.str x19] [] (AVal.bool b2) []) :: (tr 3 ++ (((!b1) = false) :: ((Owed.use (owed Try.prog 0) 12 [] [AVal.agg (rQ x3 x4 x5 x6 x7 x8 x9 x10 x11)] [AObj.rows true 20 [(rC x0 x1 x2 x3 x4 x5 x6 x7 x8 x9 x10 x11 x12 x13 x14 x15 x16 x17 x18 x19)]] [AVal.agg (rQ x3 x4 x5 x6 x7 x8 x9 x10 x11)] [] (AVal.bool b1) []) :: (tr 3 ++ [])))))))) by kernel_rfl) (allP_of ⟨⟨h1, rfl, rfl, rfl⟩, ⟨h2, ⟨⟨h3, rfl, rfl, rfl⟩, (trC 3 ⟨h4, ⟨⟨h5, rfl, rfl, rfl⟩, (trC 3 trivial)⟩⟩)⟩⟩⟩)).move ([]) (by kernel_rfl) (by kernel_rfl) (by kernel_rfl)

theorem ccuts_3 (x0 x1 x2 x3 : Int) (x4 x5 x6 x7 x8 x9 : ByteArray) (x10 x11 x12 x13 x14 x15 x16 : Int) (x17 : Bool) (x18 : Int) (x19 s : ByteArray) (e cut by_ : Int) (b1 b2 : Bool)
    (h1 : FOk Try.prog 14 [] [] (AVal.bool true) [])
    (h2 : (e == 1) = true)
    (h3 : (e != 0) = true)
    (h4 : FOk Try.prog 15 [AVal.agg (rC x0 x1 x2 x3 x4 x5 x6 x7 x8 x9 x10 x11 x12 x13 x14 x15 x16 x17 x18 x19)] [] (AVal.tuple [AVal.str s, AVal.int IntKind.i64 e]) [])
    (h5 : (!b2) = false)
    (h6 : FOk Try.prog 13 [AVal.str x19] [] (AVal.bool b2) [])
    (h7 : (!b1) = false)
    (h8 : FOk Try.prog 12 [AVal.agg (rQ x3 x4 x5 x6 x7 x8 x9 x10 x11)] [] (AVal.bool b1) []) :
    FOk Try.prog 5 ([AVal.agg (rC x0 x1 x2 x3 x4 x5 x6 x7 x8 x9 x10 x11 x12 x13 x14 x15 x16 x17 x18 x19), AVal.int IntKind.i64 cut, AVal.int IntKind.i64 by_]) ([]) (AVal.bool true) ([]) :=
  (evalF_ok followed Try.func5 (by kernel_rfl) (show evalF Try.prog Try.f5 ([AVal.agg (rC x0 x1 x2 x3 x4 x5 x6 x7 x8 x9 x10 x11 x12 x13 x14 x15 x16 x17 x18 x19), AVal.int IntKind.i64 cut, AVal.int IntKind.i64 by_]) ([]) ([Dec.use [] [AVal.agg (rQ x3 x4 x5 x6 x7 x8 x9 x10 x11)] [] (AVal.bool b1) [], Dec.br false, Dec.use [] [AVal.str x19] [] (AVal.bool b2) [], Dec.br false, Dec.use [] [AVal.agg (rC x0 x1 x2 x3 x4 x5 x6 x7 x8 x9 x10 x11 x12 x13 x14 x15 x16 x17 x18 x19)] [] (AVal.tuple [AVal.str s, AVal.int IntKind.i64 e]) [], Dec.br true, Dec.br true, Dec.use [] [] [] (AVal.bool true) []]) = .ok (FRes.mk (AVal.bool true) ([AObj.rows true 20 [(rC x0 x1 x2 x3 x4 x5 x6 x7 x8 x9 x10 x11 x12 x13 x14 x15 x16 x17 x18 x19)]]) ((Owed.use (owed Try.prog 0) 14 [] [] [AObj.rows true 20 [(rC x0 x1 x2 x3 x4 x5 x6 x7 x8 x9 x10 x11 x12 x13 x14 x15 x16 x17 x18 x19)]] [] [] (AVal.bool true) []) :: (((e == 1) = true) :: (((e != 0) = true) :: ((Owed.use (owed Try.prog 0) 15 [] [AVal.agg (rC x0 x1 x2 x3 x4 x5 x6 x7 x8 x9 x10 x11 x12 x13 x14 x15 x16 x17 x18 x19)] [AObj.rows true 20 [(rC x0 x1 x2 x3 x4 x5 x6 x7 x8 x9 x10 x11 x12 x13 x14 x15 x16 x17 x18 x19)]] [AVal.agg (rC x0 x1 x2 x3 x4 x5 x6 x7 x8 x9 x10 x11 x12 x13 x14 x15 x16 x17 x18 x19)] [] (AVal.tuple [AVal.str s, AVal.int IntKind.i64 e]) []) :: (tr 3 ++ (((!b2) = false) :: ((Owed.use (owed Try.prog 0) 13 [] [AVal.str x19] [AObj.rows true 20 [(rC x0 x1 x2 x3 x4 x5 x6 x7 x8 x9 x10 x11 x12 x13 x14 x15 x16 x17 x18 x19)]] [AVal.str x19] [] (AVal.bool b2) []) :: (tr 3 ++ (((!b1) = false) :: ((Owed.use (owed Try.prog 0) 12 [] [AVal.agg (rQ x3 x4 x5 x6 x7 x8 x9 x10 x11)] [AObj.rows true 20 [(rC x0 x1 x2 x3 x4 x5 x6 x7 x8 x9 x10 x11 x12 x13 x14 x15 x16 x17 x18 x19)]] [AVal.agg (rQ x3 x4 x5 x6 x7 x8 x9 x10 x11)] [] (AVal.bool b1) []) :: (tr 3 ++ [])))))))))))) by kernel_rfl) (allP_of ⟨⟨h1, rfl, rfl, rfl⟩, ⟨h2, ⟨h3, ⟨⟨h4, rfl, rfl, rfl⟩, (trC 3 ⟨h5, ⟨⟨h6, rfl, rfl, rfl⟩, (trC 3 ⟨h7, ⟨⟨h8, rfl, rfl, rfl⟩, (trC 3 trivial)⟩⟩)⟩⟩)⟩⟩⟩⟩)).move ([]) (by kernel_rfl) (by kernel_rfl) (by kernel_rfl)

theorem ccuts_4 (x0 x1 x2 x3 : Int) (x4 x5 x6 x7 x8 x9 : ByteArray) (x10 x11 x12 x13 x14 x15 x16 : Int) (x17 : Bool) (x18 : Int) (x19 s : ByteArray) (e cut by_ : Int) (b1 b2 : Bool)
    (h1 : (e == 1) = false)
    (h2 : (e != 0) = true)
    (h3 : FOk Try.prog 15 [AVal.agg (rC x0 x1 x2 x3 x4 x5 x6 x7 x8 x9 x10 x11 x12 x13 x14 x15 x16 x17 x18 x19)] [] (AVal.tuple [AVal.str s, AVal.int IntKind.i64 e]) [])
    (h4 : (!b2) = false)
    (h5 : FOk Try.prog 13 [AVal.str x19] [] (AVal.bool b2) [])
    (h6 : (!b1) = false)
    (h7 : FOk Try.prog 12 [AVal.agg (rQ x3 x4 x5 x6 x7 x8 x9 x10 x11)] [] (AVal.bool b1) []) :
    FOk Try.prog 5 ([AVal.agg (rC x0 x1 x2 x3 x4 x5 x6 x7 x8 x9 x10 x11 x12 x13 x14 x15 x16 x17 x18 x19), AVal.int IntKind.i64 cut, AVal.int IntKind.i64 by_]) ([]) (AVal.bool false) ([]) :=
  (evalF_ok followed Try.func5 (by kernel_rfl) (show evalF Try.prog Try.f5 ([AVal.agg (rC x0 x1 x2 x3 x4 x5 x6 x7 x8 x9 x10 x11 x12 x13 x14 x15 x16 x17 x18 x19), AVal.int IntKind.i64 cut, AVal.int IntKind.i64 by_]) ([]) ([Dec.use [] [AVal.agg (rQ x3 x4 x5 x6 x7 x8 x9 x10 x11)] [] (AVal.bool b1) [], Dec.br false, Dec.use [] [AVal.str x19] [] (AVal.bool b2) [], Dec.br false, Dec.use [] [AVal.agg (rC x0 x1 x2 x3 x4 x5 x6 x7 x8 x9 x10 x11 x12 x13 x14 x15 x16 x17 x18 x19)] [] (AVal.tuple [AVal.str s, AVal.int IntKind.i64 e]) [], Dec.br true, Dec.br false]) = .ok (FRes.mk (AVal.bool false) ([AObj.rows true 20 [(rC x0 x1 x2 x3 x4 x5 x6 x7 x8 x9 x10 x11 x12 x13 x14 x15 x16 x17 x18 x19)]]) (((e == 1) = false) :: (((e != 0) = true) :: ((Owed.use (owed Try.prog 0) 15 [] [AVal.agg (rC x0 x1 x2 x3 x4 x5 x6 x7 x8 x9 x10 x11 x12 x13 x14 x15 x16 x17 x18 x19)] [AObj.rows true 20 [(rC x0 x1 x2 x3 x4 x5 x6 x7 x8 x9 x10 x11 x12 x13 x14 x15 x16 x17 x18 x19)]] [AVal.agg (rC x0 x1 x2 x3 x4 x5 x6 x7 x8 x9 x10 x11 x12 x13 x14 x15 x16 x17 x18 x19)] [] (AVal.tuple [AVal.str s, AVal.int IntKind.i64 e]) []) :: (tr 3 ++ (((!b2) = false) :: ((Owed.use (owed Try.prog 0) 13 [] [AVal.str x19] [AObj.rows true 20 [(rC x0 x1 x2 x3 x4 x5 x6 x7 x8 x9 x10 x11 x12 x13 x14 x15 x16 x17 x18 x19)]] [AVal.str x19] [] (AVal.bool b2) []) :: (tr 3 ++ (((!b1) = false) :: ((Owed.use (owed Try.prog 0) 12 [] [AVal.agg (rQ x3 x4 x5 x6 x7 x8 x9 x10 x11)] [AObj.rows true 20 [(rC x0 x1 x2 x3 x4 x5 x6 x7 x8 x9 x10 x11 x12 x13 x14 x15 x16 x17 x18 x19)]] [AVal.agg (rQ x3 x4 x5 x6 x7 x8 x9 x10 x11)] [] (AVal.bool b1) []) :: (tr 3 ++ []))))))))))) by kernel_rfl) (allP_of ⟨h1, ⟨h2, ⟨⟨h3, rfl, rfl, rfl⟩, (trC 3 ⟨h4, ⟨⟨h5, rfl, rfl, rfl⟩, (trC 3 ⟨h6, ⟨⟨h7, rfl, rfl, rfl⟩, (trC 3 trivial)⟩⟩)⟩⟩)⟩⟩⟩)).move ([]) (by kernel_rfl) (by kernel_rfl) (by kernel_rfl)

theorem ccuts_5 (x0 x1 x2 x3 : Int) (x4 x5 x6 x7 x8 x9 : ByteArray) (x10 x11 x12 x13 x14 x15 x16 : Int) (x17 : Bool) (x18 : Int) (x19 s : ByteArray) (e cut by_ : Int) (b1 b2 : Bool)
    (h1 : FOk Try.prog 14 [] [] (AVal.bool true) [])
    (h2 : (e == 1) = true)
    (h3 : ((↑(ByteArray.size s) : Int) == 0) = true)
    (h4 : (e != 0) = false)
    (h5 : FOk Try.prog 15 [AVal.agg (rC x0 x1 x2 x3 x4 x5 x6 x7 x8 x9 x10 x11 x12 x13 x14 x15 x16 x17 x18 x19)] [] (AVal.tuple [AVal.str s, AVal.int IntKind.i64 e]) [])
    (h6 : (!b2) = false)
    (h7 : FOk Try.prog 13 [AVal.str x19] [] (AVal.bool b2) [])
    (h8 : (!b1) = false)
    (h9 : FOk Try.prog 12 [AVal.agg (rQ x3 x4 x5 x6 x7 x8 x9 x10 x11)] [] (AVal.bool b1) []) :
    FOk Try.prog 5 ([AVal.agg (rC x0 x1 x2 x3 x4 x5 x6 x7 x8 x9 x10 x11 x12 x13 x14 x15 x16 x17 x18 x19), AVal.int IntKind.i64 cut, AVal.int IntKind.i64 by_]) ([]) (AVal.bool true) ([]) :=
  (evalF_ok followed Try.func5 (by kernel_rfl) (show evalF Try.prog Try.f5 ([AVal.agg (rC x0 x1 x2 x3 x4 x5 x6 x7 x8 x9 x10 x11 x12 x13 x14 x15 x16 x17 x18 x19), AVal.int IntKind.i64 cut, AVal.int IntKind.i64 by_]) ([]) ([Dec.use [] [AVal.agg (rQ x3 x4 x5 x6 x7 x8 x9 x10 x11)] [] (AVal.bool b1) [], Dec.br false, Dec.use [] [AVal.str x19] [] (AVal.bool b2) [], Dec.br false, Dec.use [] [AVal.agg (rC x0 x1 x2 x3 x4 x5 x6 x7 x8 x9 x10 x11 x12 x13 x14 x15 x16 x17 x18 x19)] [] (AVal.tuple [AVal.str s, AVal.int IntKind.i64 e]) [], Dec.br false, Dec.br true, Dec.br true, Dec.use [] [] [] (AVal.bool true) []]) = .ok (FRes.mk (AVal.bool true) ([AObj.rows true 20 [(rC x0 x1 x2 x3 x4 x5 x6 x7 x8 x9 x10 x11 x12 x13 x14 x15 x16 x17 x18 x19)]]) ((Owed.use (owed Try.prog 0) 14 [] [] [AObj.rows true 20 [(rC x0 x1 x2 x3 x4 x5 x6 x7 x8 x9 x10 x11 x12 x13 x14 x15 x16 x17 x18 x19)]] [] [] (AVal.bool true) []) :: (((e == 1) = true) :: ((((↑(ByteArray.size s) : Int) == 0) = true) :: (((e != 0) = false) :: ((Owed.use (owed Try.prog 0) 15 [] [AVal.agg (rC x0 x1 x2 x3 x4 x5 x6 x7 x8 x9 x10 x11 x12 x13 x14 x15 x16 x17 x18 x19)] [AObj.rows true 20 [(rC x0 x1 x2 x3 x4 x5 x6 x7 x8 x9 x10 x11 x12 x13 x14 x15 x16 x17 x18 x19)]] [AVal.agg (rC x0 x1 x2 x3 x4 x5 x6 x7 x8 x9 x10 x11 x12 x13 x14 x15 x16 x17 x18 x19)] [] (AVal.tuple [AVal.str s, AVal.int IntKind.i64 e]) []) :: (tr 3 ++ (((!b2) = false) :: ((Owed.use (owed Try.prog 0) 13 [] [AVal.str x19] [AObj.rows true 20 [(rC x0 x1 x2 x3 x4 x5 x6 x7 x8 x9 x10 x11 x12 x13 x14 x15 x16 x17 x18 x19)]] [AVal.str x19] [] (AVal.bool b2) []) :: (tr 3 ++ (((!b1) = false) :: ((Owed.use (owed Try.prog 0) 12 [] [AVal.agg (rQ x3 x4 x5 x6 x7 x8 x9 x10 x11)] [AObj.rows true 20 [(rC x0 x1 x2 x3 x4 x5 x6 x7 x8 x9 x10 x11 x12 x13 x14 x15 x16 x17 x18 x19)]] [AVal.agg (rQ x3 x4 x5 x6 x7 x8 x9 x10 x11)] [] (AVal.bool b1) []) :: (tr 3 ++ []))))))))))))) by kernel_rfl) (allP_of ⟨⟨h1, rfl, rfl, rfl⟩, ⟨h2, ⟨h3, ⟨h4, ⟨⟨h5, rfl, rfl, rfl⟩, (trC 3 ⟨h6, ⟨⟨h7, rfl, rfl, rfl⟩, (trC 3 ⟨h8, ⟨⟨h9, rfl, rfl, rfl⟩, (trC 3 trivial)⟩⟩)⟩⟩)⟩⟩⟩⟩⟩)).move ([]) (by kernel_rfl) (by kernel_rfl) (by kernel_rfl)

theorem ccuts_6 (x0 x1 x2 x3 : Int) (x4 x5 x6 x7 x8 x9 : ByteArray) (x10 x11 x12 x13 x14 x15 x16 : Int) (x17 : Bool) (x18 : Int) (x19 s : ByteArray) (e cut by_ : Int) (b1 b2 : Bool)
    (h1 : (e == 1) = false)
    (h2 : ((↑(ByteArray.size s) : Int) == 0) = true)
    (h3 : (e != 0) = false)
    (h4 : FOk Try.prog 15 [AVal.agg (rC x0 x1 x2 x3 x4 x5 x6 x7 x8 x9 x10 x11 x12 x13 x14 x15 x16 x17 x18 x19)] [] (AVal.tuple [AVal.str s, AVal.int IntKind.i64 e]) [])
    (h5 : (!b2) = false)
    (h6 : FOk Try.prog 13 [AVal.str x19] [] (AVal.bool b2) [])
    (h7 : (!b1) = false)
    (h8 : FOk Try.prog 12 [AVal.agg (rQ x3 x4 x5 x6 x7 x8 x9 x10 x11)] [] (AVal.bool b1) []) :
    FOk Try.prog 5 ([AVal.agg (rC x0 x1 x2 x3 x4 x5 x6 x7 x8 x9 x10 x11 x12 x13 x14 x15 x16 x17 x18 x19), AVal.int IntKind.i64 cut, AVal.int IntKind.i64 by_]) ([]) (AVal.bool false) ([]) :=
  (evalF_ok followed Try.func5 (by kernel_rfl) (show evalF Try.prog Try.f5 ([AVal.agg (rC x0 x1 x2 x3 x4 x5 x6 x7 x8 x9 x10 x11 x12 x13 x14 x15 x16 x17 x18 x19), AVal.int IntKind.i64 cut, AVal.int IntKind.i64 by_]) ([]) ([Dec.use [] [AVal.agg (rQ x3 x4 x5 x6 x7 x8 x9 x10 x11)] [] (AVal.bool b1) [], Dec.br false, Dec.use [] [AVal.str x19] [] (AVal.bool b2) [], Dec.br false, Dec.use [] [AVal.agg (rC x0 x1 x2 x3 x4 x5 x6 x7 x8 x9 x10 x11 x12 x13 x14 x15 x16 x17 x18 x19)] [] (AVal.tuple [AVal.str s, AVal.int IntKind.i64 e]) [], Dec.br false, Dec.br true, Dec.br false]) = .ok (FRes.mk (AVal.bool false) ([AObj.rows true 20 [(rC x0 x1 x2 x3 x4 x5 x6 x7 x8 x9 x10 x11 x12 x13 x14 x15 x16 x17 x18 x19)]]) (((e == 1) = false) :: ((((↑(ByteArray.size s) : Int) == 0) = true) :: (((e != 0) = false) :: ((Owed.use (owed Try.prog 0) 15 [] [AVal.agg (rC x0 x1 x2 x3 x4 x5 x6 x7 x8 x9 x10 x11 x12 x13 x14 x15 x16 x17 x18 x19)] [AObj.rows true 20 [(rC x0 x1 x2 x3 x4 x5 x6 x7 x8 x9 x10 x11 x12 x13 x14 x15 x16 x17 x18 x19)]] [AVal.agg (rC x0 x1 x2 x3 x4 x5 x6 x7 x8 x9 x10 x11 x12 x13 x14 x15 x16 x17 x18 x19)] [] (AVal.tuple [AVal.str s, AVal.int IntKind.i64 e]) []) :: (tr 3 ++ (((!b2) = false) :: ((Owed.use (owed Try.prog 0) 13 [] [AVal.str x19] [AObj.rows true 20 [(rC x0 x1 x2 x3 x4 x5 x6 x7 x8 x9 x10 x11 x12 x13 x14 x15 x16 x17 x18 x19)]] [AVal.str x19] [] (AVal.bool b2) []) :: (tr 3 ++ (((!b1) = false) :: ((Owed.use (owed Try.prog 0) 12 [] [AVal.agg (rQ x3 x4 x5 x6 x7 x8 x9 x10 x11)] [AObj.rows true 20 [(rC x0 x1 x2 x3 x4 x5 x6 x7 x8 x9 x10 x11 x12 x13 x14 x15 x16 x17 x18 x19)]] [AVal.agg (rQ x3 x4 x5 x6 x7 x8 x9 x10 x11)] [] (AVal.bool b1) []) :: (tr 3 ++ [])))))))))))) by kernel_rfl) (allP_of ⟨h1, ⟨h2, ⟨h3, ⟨⟨h4, rfl, rfl, rfl⟩, (trC 3 ⟨h5, ⟨⟨h6, rfl, rfl, rfl⟩, (trC 3 ⟨h7, ⟨⟨h8, rfl, rfl, rfl⟩, (trC 3 trivial)⟩⟩)⟩⟩)⟩⟩⟩⟩)).move ([]) (by kernel_rfl) (by kernel_rfl) (by kernel_rfl)

theorem ccuts_7 (x0 x1 x2 x3 : Int) (x4 x5 x6 x7 x8 x9 : ByteArray) (x10 x11 x12 x13 x14 x15 x16 : Int) (x17 : Bool) (x18 : Int) (x19 s : ByteArray) (e cut by_ : Int) (b1 b2 : Bool)
    (h1 : FOk Try.prog 14 [] [] (AVal.bool true) [])
    (h2 : FOk Try.prog 17 [AVal.str (s ++ rowBytes [[AVal.int IntKind.u8 (IntKind.wrap IntKind.u8 (bits BinOp.and IntKind.i64 by_ 255))]])] [] (AVal.tuple [AVal.agg rC0, AVal.int IntKind.i64 140]) [])
    (h3 : decide (ByteArray.size s + 1 ≤ 9223372036854775807) = true)
    (h4 : FOk Try.prog 17 [AVal.str (ByteArray.extract s 0 (Int.toNat (IntKind.wrap IntKind.i64 (0 - Int.tmod cut (↑(ByteArray.size s) : Int)))))] [] (AVal.tuple [AVal.agg rC0, AVal.int IntKind.i64 140]) [])
    (h5 : decide (0 ≤ (↑0 : Int) ∧ (↑0 : Int) ≤ IntKind.wrap IntKind.i64 (0 - Int.tmod cut (↑(ByteArray.size s) : Int)) ∧ IntKind.wrap IntKind.i64 (0 - Int.tmod cut (↑(ByteArray.size s) : Int)) ≤ (↑(ByteArray.size s) : Int)) = true)
    (h6 : decide (Int.tmod cut (↑(ByteArray.size s) : Int) < 0) = true)
    (h7 : decide ((↑(ByteArray.size s) : Int) ≠ 0) = true)
    (h8 : ((↑(ByteArray.size s) : Int) == 0) = false)
    (h9 : (e != 0) = false)
    (h10 : FOk Try.prog 15 [AVal.agg (rC x0 x1 x2 x3 x4 x5 x6 x7 x8 x9 x10 x11 x12 x13 x14 x15 x16 x17 x18 x19)] [] (AVal.tuple [AVal.str s, AVal.int IntKind.i64 e]) [])
    (h11 : (!b2) = false)
    (h12 : FOk Try.prog 13 [AVal.str x19] [] (AVal.bool b2) [])
    (h13 : (!b1) = false)
    (h14 : FOk Try.prog 12 [AVal.agg (rQ x3 x4 x5 x6 x7 x8 x9 x10 x11)] [] (AVal.bool b1) []) :
    FOk Try.prog 5 ([AVal.agg (rC x0 x1 x2 x3 x4 x5 x6 x7 x8 x9 x10 x11 x12 x13 x14 x15 x16 x17 x18 x19), AVal.int IntKind.i64 cut, AVal.int IntKind.i64 by_]) ([]) (AVal.bool true) ([]) :=
  (evalF_ok followed Try.func5 (by kernel_rfl) (show evalF Try.prog Try.f5 ([AVal.agg (rC x0 x1 x2 x3 x4 x5 x6 x7 x8 x9 x10 x11 x12 x13 x14 x15 x16 x17 x18 x19), AVal.int IntKind.i64 cut, AVal.int IntKind.i64 by_]) ([]) ([Dec.use [] [AVal.agg (rQ x3 x4 x5 x6 x7 x8 x9 x10 x11)] [] (AVal.bool b1) [], Dec.br false, Dec.use [] [AVal.str x19] [] (AVal.bool b2) [], Dec.br false, Dec.use [] [AVal.agg (rC x0 x1 x2 x3 x4 x5 x6 x7 x8 x9 x10 x11 x12 x13 x14 x15 x16 x17 x18 x19)] [] (AVal.tuple [AVal.str s, AVal.int IntKind.i64 e]) [], Dec.br false, Dec.br false, Dec.br true, Dec.use [] [AVal.str (ByteArray.extract s 0 (Int.toNat (IntKind.wrap IntKind.i64 (0 - Int.tmod cut (↑(ByteArray.size s) : Int)))))] [] (AVal.tuple [AVal.agg rC0, AVal.int IntKind.i64 140]) [], Dec.use [] [AVal.str (s ++ rowBytes [[AVal.int IntKind.u8 (IntKind.wrap IntKind.u8 (bits BinOp.and IntKind.i64 by_ 255))]])] [] (AVal.tuple [AVal.agg rC0, AVal.int IntKind.i64 140]) [], Dec.br true, Dec.br true, Dec.br true, Dec.br true, Dec.use [] [] [] (AVal.bool true) []]) = .ok (FRes.mk (AVal.bool true) ([AObj.rows true 20 [(rC x0 x1 x2 x3 x4 x5 x6 x7 x8 x9 x10 x11 x12 x13 x14 x15 x16 x17 x18 x19)], AObj.rows true 20 [rC0], AObj.rows true 1 [[AVal.int IntKind.u8 (IntKind.wrap IntKind.u8 (bits BinOp.and IntKind.i64 by_ 255))]], AObj.rows true 20 [rC0]]) ((Owed.use (owed Try.prog 0) 14 [] [] [AObj.rows true 20 [(rC x0 x1 x2 x3 x4 x5 x6 x7 x8 x9 x10 x11 x12 x13 x14 x15 x16 x17 x18 x19)], AObj.rows true 20 [rC0], AObj.rows true 1 [[AVal.int IntKind.u8 (IntKind.wrap IntKind.u8 (bits BinOp.and IntKind.i64 by_ 255))]], AObj.rows true 20 [rC0]] [] [] (AVal.bool true) []) :: (tr 12 ++ ((Owed.use (owed Try.prog 0) 17 [] [AVal.str (s ++ rowBytes [[AVal.int IntKind.u8 (IntKind.wrap IntKind.u8 (bits BinOp.and IntKind.i64 by_ 255))]])] [AObj.rows true 20 [(rC x0 x1 x2 x3 x4 x5 x6 x7 x8 x9 x10 x11 x12 x13 x14 x15 x16 x17 x18 x19)], AObj.rows true 20 [rC0], AObj.rows true 1 [[AVal.int IntKind.u8 (IntKind.wrap IntKind.u8 (bits BinOp.and IntKind.i64 by_ 255))]]] [AVal.str (s ++ rowBytes [[AVal.int IntKind.u8 (IntKind.wrap IntKind.u8 (bits BinOp.and IntKind.i64 by_ 255))]])] [] (AVal.tuple [AVal.agg rC0, AVal.int IntKind.i64 140]) []) :: ((decide (ByteArray.size s + 1 ≤ 9223372036854775807) = true) :: (tr 5 ++ ((Owed.use (owed Try.prog 0) 17 [] [AVal.str (ByteArray.extract s 0 (Int.toNat (IntKind.wrap IntKind.i64 (0 - Int.tmod cut (↑(ByteArray.size s) : Int)))))] [AObj.rows true 20 [(rC x0 x1 x2 x3 x4 x5 x6 x7 x8 x9 x10 x11 x12 x13 x14 x15 x16 x17 x18 x19)]] [AVal.str (ByteArray.extract s 0 (Int.toNat (IntKind.wrap IntKind.i64 (0 - Int.tmod cut (↑(ByteArray.size s) : Int)))))] [] (AVal.tuple [AVal.agg rC0, AVal.int IntKind.i64 140]) []) :: ((decide (0 ≤ (↑0 : Int) ∧ (↑0 : Int) ≤ IntKind.wrap IntKind.i64 (0 - Int.tmod cut (↑(ByteArray.size s) : Int)) ∧ IntKind.wrap IntKind.i64 (0 - Int.tmod cut (↑(ByteArray.size s) : Int)) ≤ (↑(ByteArray.size s) : Int)) = true) :: ((decide (Int.tmod cut (↑(ByteArray.size s) : Int) < 0) = true) :: ((decide ((↑(ByteArray.size s) : Int) ≠ 0) = true) :: ((((↑(ByteArray.size s) : Int) == 0) = false) :: (((e != 0) = false) :: ((Owed.use (owed Try.prog 0) 15 [] [AVal.agg (rC x0 x1 x2 x3 x4 x5 x6 x7 x8 x9 x10 x11 x12 x13 x14 x15 x16 x17 x18 x19)] [AObj.rows true 20 [(rC x0 x1 x2 x3 x4 x5 x6 x7 x8 x9 x10 x11 x12 x13 x14 x15 x16 x17 x18 x19)]] [AVal.agg (rC x0 x1 x2 x3 x4 x5 x6 x7 x8 x9 x10 x11 x12 x13 x14 x15 x16 x17 x18 x19)] [] (AVal.tuple [AVal.str s, AVal.int IntKind.i64 e]) []) :: (tr 3 ++ (((!b2) = false) :: ((Owed.use (owed Try.prog 0) 13 [] [AVal.str x19] [AObj.rows true 20 [(rC x0 x1 x2 x3 x4 x5 x6 x7 x8 x9 x10 x11 x12 x13 x14 x15 x16 x17 x18 x19)]] [AVal.str x19] [] (AVal.bool b2) []) :: (tr 3 ++ (((!b1) = false) :: ((Owed.use (owed Try.prog 0) 12 [] [AVal.agg (rQ x3 x4 x5 x6 x7 x8 x9 x10 x11)] [AObj.rows true 20 [(rC x0 x1 x2 x3 x4 x5 x6 x7 x8 x9 x10 x11 x12 x13 x14 x15 x16 x17 x18 x19)]] [AVal.agg (rQ x3 x4 x5 x6 x7 x8 x9 x10 x11)] [] (AVal.bool b1) []) :: (tr 3 ++ [])))))))))))))))))))) by kernel_rfl) (allP_of ⟨⟨h1, rfl, rfl, rfl⟩, (trC 12 ⟨⟨h2, rfl, rfl, rfl⟩, ⟨h3, (trC 5 ⟨⟨h4, rfl, rfl, rfl⟩, ⟨h5, ⟨h6, ⟨h7, ⟨h8, ⟨h9, ⟨⟨h10, rfl, rfl, rfl⟩, (trC 3 ⟨h11, ⟨⟨h12, rfl, rfl, rfl⟩, (trC 3 ⟨h13, ⟨⟨h14, rfl, rfl, rfl⟩, (trC 3 trivial)⟩⟩)⟩⟩)⟩⟩⟩⟩⟩⟩⟩)⟩⟩)⟩)).move ([]) (by kernel_rfl) (by kernel_rfl) (by kernel_rfl)

theorem ccuts_8 (x0 x1 x2 x3 : Int) (x4 x5 x6 x7 x8 x9 : ByteArray) (x10 x11 x12 x13 x14 x15 x16 : Int) (x17 : Bool) (x18 : Int) (x19 s : ByteArray) (e cut by_ : Int) (b1 b2 : Bool)
    (h1 : FOk Try.prog 14 [] [] (AVal.bool true) [])
    (h2 : FOk Try.prog 17 [AVal.str (s ++ rowBytes [[AVal.int IntKind.u8 (IntKind.wrap IntKind.u8 (bits BinOp.and IntKind.i64 by_ 255))]])] [] (AVal.tuple [AVal.agg rC0, AVal.int IntKind.i64 140]) [])
    (h3 : decide (ByteArray.size s + 1 ≤ 9223372036854775807) = true)
    (h4 : FOk Try.prog 17 [AVal.str (ByteArray.extract s 0 (Int.toNat (Int.tmod cut (↑(ByteArray.size s) : Int))))] [] (AVal.tuple [AVal.agg rC0, AVal.int IntKind.i64 140]) [])
    (h5 : decide (0 ≤ (↑0 : Int) ∧ (↑0 : Int) ≤ Int.tmod cut (↑(ByteArray.size s) : Int) ∧ Int.tmod cut (↑(ByteArray.size s) : Int) ≤ (↑(ByteArray.size s) : Int)) = true)
    (h6 : decide (Int.tmod cut (↑(ByteArray.size s) : Int) < 0) = false)
    (h7 : decide ((↑(ByteArray.size s) : Int) ≠ 0) = true)
    (h8 : ((↑(ByteArray.size s) : Int) == 0) = false)
    (h9 : (e != 0) = false)
    (h10 : FOk Try.prog 15 [AVal.agg (rC x0 x1 x2 x3 x4 x5 x6 x7 x8 x9 x10 x11 x12 x13 x14 x15 x16 x17 x18 x19)] [] (AVal.tuple [AVal.str s, AVal.int IntKind.i64 e]) [])
    (h11 : (!b2) = false)
    (h12 : FOk Try.prog 13 [AVal.str x19] [] (AVal.bool b2) [])
    (h13 : (!b1) = false)
    (h14 : FOk Try.prog 12 [AVal.agg (rQ x3 x4 x5 x6 x7 x8 x9 x10 x11)] [] (AVal.bool b1) []) :
    FOk Try.prog 5 ([AVal.agg (rC x0 x1 x2 x3 x4 x5 x6 x7 x8 x9 x10 x11 x12 x13 x14 x15 x16 x17 x18 x19), AVal.int IntKind.i64 cut, AVal.int IntKind.i64 by_]) ([]) (AVal.bool true) ([]) :=
  (evalF_ok followed Try.func5 (by kernel_rfl) (show evalF Try.prog Try.f5 ([AVal.agg (rC x0 x1 x2 x3 x4 x5 x6 x7 x8 x9 x10 x11 x12 x13 x14 x15 x16 x17 x18 x19), AVal.int IntKind.i64 cut, AVal.int IntKind.i64 by_]) ([]) ([Dec.use [] [AVal.agg (rQ x3 x4 x5 x6 x7 x8 x9 x10 x11)] [] (AVal.bool b1) [], Dec.br false, Dec.use [] [AVal.str x19] [] (AVal.bool b2) [], Dec.br false, Dec.use [] [AVal.agg (rC x0 x1 x2 x3 x4 x5 x6 x7 x8 x9 x10 x11 x12 x13 x14 x15 x16 x17 x18 x19)] [] (AVal.tuple [AVal.str s, AVal.int IntKind.i64 e]) [], Dec.br false, Dec.br false, Dec.br false, Dec.use [] [AVal.str (ByteArray.extract s 0 (Int.toNat (Int.tmod cut (↑(ByteArray.size s) : Int))))] [] (AVal.tuple [AVal.agg rC0, AVal.int IntKind.i64 140]) [], Dec.use [] [AVal.str (s ++ rowBytes [[AVal.int IntKind.u8 (IntKind.wrap IntKind.u8 (bits BinOp.and IntKind.i64 by_ 255))]])] [] (AVal.tuple [AVal.agg rC0, AVal.int IntKind.i64 140]) [], Dec.br true, Dec.br true, Dec.br true, Dec.br true, Dec.use [] [] [] (AVal.bool true) []]) = .ok (FRes.mk (AVal.bool true) ([AObj.rows true 20 [(rC x0 x1 x2 x3 x4 x5 x6 x7 x8 x9 x10 x11 x12 x13 x14 x15 x16 x17 x18 x19)], AObj.rows true 20 [rC0], AObj.rows true 1 [[AVal.int IntKind.u8 (IntKind.wrap IntKind.u8 (bits BinOp.and IntKind.i64 by_ 255))]], AObj.rows true 20 [rC0]]) ((Owed.use (owed Try.prog 0) 14 [] [] [AObj.rows true 20 [(rC x0 x1 x2 x3 x4 x5 x6 x7 x8 x9 x10 x11 x12 x13 x14 x15 x16 x17 x18 x19)], AObj.rows true 20 [rC0], AObj.rows true 1 [[AVal.int IntKind.u8 (IntKind.wrap IntKind.u8 (bits BinOp.and IntKind.i64 by_ 255))]], AObj.rows true 20 [rC0]] [] [] (AVal.bool true) []) :: (tr 12 ++ ((Owed.use (owed Try.prog 0) 17 [] [AVal.str (s ++ rowBytes [[AVal.int IntKind.u8 (IntKind.wrap IntKind.u8 (bits BinOp.and IntKind.i64 by_ 255))]])] [AObj.rows true 20 [(rC x0 x1 x2 x3 x4 x5 x6 x7 x8 x9 x10 x11 x12 x13 x14 x15 x16 x17 x18 x19)], AObj.rows true 20 [rC0], AObj.rows true 1 [[AVal.int IntKind.u8 (IntKind.wrap IntKind.u8 (bits BinOp.and IntKind.i64 by_ 255))]]] [AVal.str (s ++ rowBytes [[AVal.int IntKind.u8 (IntKind.wrap IntKind.u8 (bits BinOp.and IntKind.i64 by_ 255))]])] [] (AVal.tuple [AVal.agg rC0, AVal.int IntKind.i64 140]) []) :: ((decide (ByteArray.size s + 1 ≤ 9223372036854775807) = true) :: (tr 5 ++ ((Owed.use (owed Try.prog 0) 17 [] [AVal.str (ByteArray.extract s 0 (Int.toNat (Int.tmod cut (↑(ByteArray.size s) : Int))))] [AObj.rows true 20 [(rC x0 x1 x2 x3 x4 x5 x6 x7 x8 x9 x10 x11 x12 x13 x14 x15 x16 x17 x18 x19)]] [AVal.str (ByteArray.extract s 0 (Int.toNat (Int.tmod cut (↑(ByteArray.size s) : Int))))] [] (AVal.tuple [AVal.agg rC0, AVal.int IntKind.i64 140]) []) :: ((decide (0 ≤ (↑0 : Int) ∧ (↑0 : Int) ≤ Int.tmod cut (↑(ByteArray.size s) : Int) ∧ Int.tmod cut (↑(ByteArray.size s) : Int) ≤ (↑(ByteArray.size s) : Int)) = true) :: ((decide (Int.tmod cut (↑(ByteArray.size s) : Int) < 0) = false) :: ((decide ((↑(ByteArray.size s) : Int) ≠ 0) = true) :: ((((↑(ByteArray.size s) : Int) == 0) = false) :: (((e != 0) = false) :: ((Owed.use (owed Try.prog 0) 15 [] [AVal.agg (rC x0 x1 x2 x3 x4 x5 x6 x7 x8 x9 x10 x11 x12 x13 x14 x15 x16 x17 x18 x19)] [AObj.rows true 20 [(rC x0 x1 x2 x3 x4 x5 x6 x7 x8 x9 x10 x11 x12 x13 x14 x15 x16 x17 x18 x19)]] [AVal.agg (rC x0 x1 x2 x3 x4 x5 x6 x7 x8 x9 x10 x11 x12 x13 x14 x15 x16 x17 x18 x19)] [] (AVal.tuple [AVal.str s, AVal.int IntKind.i64 e]) []) :: (tr 3 ++ (((!b2) = false) :: ((Owed.use (owed Try.prog 0) 13 [] [AVal.str x19] [AObj.rows true 20 [(rC x0 x1 x2 x3 x4 x5 x6 x7 x8 x9 x10 x11 x12 x13 x14 x15 x16 x17 x18 x19)]] [AVal.str x19] [] (AVal.bool b2) []) :: (tr 3 ++ (((!b1) = false) :: ((Owed.use (owed Try.prog 0) 12 [] [AVal.agg (rQ x3 x4 x5 x6 x7 x8 x9 x10 x11)] [AObj.rows true 20 [(rC x0 x1 x2 x3 x4 x5 x6 x7 x8 x9 x10 x11 x12 x13 x14 x15 x16 x17 x18 x19)]] [AVal.agg (rQ x3 x4 x5 x6 x7 x8 x9 x10 x11)] [] (AVal.bool b1) []) :: (tr 3 ++ [])))))))))))))))))))) by kernel_rfl) (allP_of ⟨⟨h1, rfl, rfl, rfl⟩, (trC 12 ⟨⟨h2, rfl, rfl, rfl⟩, ⟨h3, (trC 5 ⟨⟨h4, rfl, rfl, rfl⟩, ⟨h5, ⟨h6, ⟨h7, ⟨h8, ⟨h9, ⟨⟨h10, rfl, rfl, rfl⟩, (trC 3 ⟨h11, ⟨⟨h12, rfl, rfl, rfl⟩, (trC 3 ⟨h13, ⟨⟨h14, rfl, rfl, rfl⟩, (trC 3 trivial)⟩⟩)⟩⟩)⟩⟩⟩⟩⟩⟩⟩)⟩⟩)⟩)).move ([]) (by kernel_rfl) (by kernel_rfl) (by kernel_rfl)

def ccuts_T (x0 x1 x2 x3 : Int) (x4 x5 x6 x7 x8 x9 : ByteArray) (x10 x11 x12 x13 x14 x15 x16 : Int) (x17 : Bool) (x18 : Int) (x19 s : ByteArray) (e cut by_ : Int) (b1 b2 : Bool) (Q : AVal → AState → Prop) : Prop := (FOk Try.prog 12 [AVal.agg (rQ x3 x4 x5 x6 x7 x8 x9 x10 x11)] [] (AVal.bool b1) []) ∧ (((!b1) = true) → (FOk Try.prog 14 [] [] (AVal.bool true) []) ∧ Q (AVal.bool true) ([])) ∧ (((!b1) = false) → (FOk Try.prog 13 [AVal.str x19] [] (AVal.bool b2) []) ∧ (((!b2) = true) → (FOk Try.prog 14 [] [] (AVal.bool true) []) ∧ Q (AVal.bool true) ([])) ∧ (((!b2) = false) → (FOk Try.prog 15 [AVal.agg (rC x0 x1 x2 x3 x4 x5 x6 x7 x8 x9 x10 x11 x12 x13 x14 x15 x16 x17 x18 x19)] [] (AVal.tuple [AVal.str s, AVal.int IntKind.i64 e]) []) ∧ (((e != 0) = true) → (((e == 1) = true) → (FOk Try.prog 14 [] [] (AVal.bool true) []) ∧ Q (AVal.bool true) ([])) ∧ (((e == 1) = false) → Q (AVal.bool false) ([]))) ∧ (((e != 0) = false) → ((((↑(ByteArray.size s) : Int) == 0) = true) → (((e == 1) = true) → (FOk Try.prog 14 [] [] (AVal.bool true) []) ∧ Q (AVal.bool true) ([])) ∧ (((e == 1) = false) → Q (AVal.bool false) ([]))) ∧ ((((↑(ByteArray.size s) : Int) == 0) = false) → (decide ((↑(ByteArray.size s) : Int) ≠ 0) = true) ∧ ((decide (Int.tmod cut (↑(ByteArray.size s) : Int) < 0) = true) → (decide (0 ≤ (↑0 : Int) ∧ (↑0 : Int) ≤ IntKind.wrap IntKind.i64 (0 - Int.tmod cut (↑(ByteArray.size s) : Int)) ∧ IntKind.wrap IntKind.i64 (0 - Int.tmod cut (↑(ByteArray.size s) : Int)) ≤ (↑(ByteArray.size s) : Int)) = true) ∧ (FOk Try.prog 17 [AVal.str (ByteArray.extract s 0 (Int.toNat (IntKind.wrap IntKind.i64 (0 - Int.tmod cut (↑(ByteArray.size s) : Int)))))] [] (AVal.tuple [AVal.agg rC0, AVal.int IntKind.i64 140]) []) ∧ (decide (ByteArray.size s + 1 ≤ 9223372036854775807) = true) ∧ (FOk Try.prog 17 [AVal.str (s ++ rowBytes [[AVal.int IntKind.u8 (IntKind.wrap IntKind.u8 (bits BinOp.and IntKind.i64 by_ 255))]])] [] (AVal.tuple [AVal.agg rC0, AVal.int IntKind.i64 140]) []) ∧ (FOk Try.prog 14 [] [] (AVal.bool true) []) ∧ Q (AVal.bool true) ([])) ∧ ((decide (Int.tmod cut (↑(ByteArray.size s) : Int) < 0) = false) → (decide (0 ≤ (↑0 : Int) ∧ (↑0 : Int) ≤ Int.tmod cut (↑(ByteArray.size s) : Int) ∧ Int.tmod cut (↑(ByteArray.size s) : Int) ≤ (↑(ByteArray.size s) : Int)) = true) ∧ (FOk Try.prog 17 [AVal.str (ByteArray.extract s 0 (Int.toNat (Int.tmod cut (↑(ByteArray.size s) : Int))))] [] (AVal.tuple [AVal.agg rC0, AVal.int IntKind.i64 140]) []) ∧ (decide (ByteArray.size s + 1 ≤ 9223372036854775807) = true) ∧ (FOk Try.prog 17 [AVal.str (s ++ rowBytes [[AVal.int IntKind.u8 (IntKind.wrap IntKind.u8 (bits BinOp.and IntKind.i64 by_ 255))]])] [] (AVal.tuple [AVal.agg rC0, AVal.int IntKind.i64 140]) []) ∧ (FOk Try.prog 14 [] [] (AVal.bool true) []) ∧ Q (AVal.bool true) ([]))))))
theorem ccuts_wp (x0 x1 x2 x3 : Int) (x4 x5 x6 x7 x8 x9 : ByteArray) (x10 x11 x12 x13 x14 x15 x16 : Int) (x17 : Bool) (x18 : Int) (x19 s : ByteArray) (e cut by_ : Int) (b1 b2 : Bool) {Q : AVal → AState → Prop} (h : ccuts_T x0 x1 x2 x3 x4 x5 x6 x7 x8 x9 x10 x11 x12 x13 x14 x15 x16 x17 x18 x19 s e cut by_ b1 b2 Q) : ∃ r σ', FOk Try.prog 5 ([AVal.agg (rC x0 x1 x2 x3 x4 x5 x6 x7 x8 x9 x10 x11 x12 x13 x14 x15 x16 x17 x18 x19), AVal.int IntKind.i64 cut, AVal.int IntKind.i64 by_]) ([]) r σ' ∧ Q r σ' :=
  brE (fun (c0 : (!b1) = true) => ⟨_, _, ccuts_1 x0 x1 x2 x3 x4 x5 x6 x7 x8 x9 x10 x11 x12 x13 x14 x15 x16 x17 x18 x19 s e cut by_ b1 b2 ((h.2.1 c0).1) (c0) (h.1), (h.2.1 c0).2⟩) (fun (c0 : (!b1) = false) => brE (fun (c1 : (!b2) = true) => ⟨_, _, ccuts_2 x0 x1 x2 x3 x4 x5 x6 x7 x8 x9 x10 x11 x12 x13 x14 x15 x16 x17 x18 x19 s e cut by_ b1 b2 (((h.2.2 c0).2.1 c1).1) (c1) ((h.2.2 c0).1) (c0) (h.1), ((h.2.2 c0).2.1 c1).2⟩) (fun (c1 : (!b2) = false) => brE (fun (c2 : (e != 0) = true) => brE (fun (c3 : (e == 1) = true) => ⟨_, _, ccuts_3 x0 x1 x2 x3 x4 x5 x6 x7 x8 x9 x10 x11 x12 x13 x14 x15 x16 x17 x18 x19 s e cut by_ b1 b2 (((((h.2.2 c0).2.2 c1).2.1 c2).1 c3).1) (c3) (c2) (((h.2.2 c0).2.2 c1).1) (c1) ((h.2.2 c0).1) (c0) (h.1), ((((h.2.2 c0).2.2 c1).2.1 c2).1 c3).2⟩) (fun (c3 : (e == 1) = false) => ⟨_, _, ccuts_4 x0 x1 x2 x3 x4 x5 x6 x7 x8 x9 x10 x11 x12 x13 x14 x15 x16 x17 x18 x19 s e cut by_ b1 b2 (c3) (c2) (((h.2.2 c0).2.2 c1).1) (c1) ((h.2.2 c0).1) (c0) (h.1), ((((h.2.2 c0).2.2 c1).2.1 c2).2 c3)⟩)) (fun (c2 : (e != 0) = false) => brE (fun (c4 : ((↑(ByteArray.size s) : Int) == 0) = true) => brE (fun (c5 : (e == 1) = true) => ⟨_, _, ccuts_5 x0 x1 x2 x3 x4 x5 x6 x7 x8 x9 x10 x11 x12 x13 x14 x15 x16 x17 x18 x19 s e cut by_ b1 b2 ((((((h.2.2 c0).2.2 c1).2.2 c2).1 c4).1 c5).1) (c5) (c4) (c2) (((h.2.2 c0).2.2 c1).1) (c1) ((h.2.2 c0).1) (c0) (h.1), (((((h.2.2 c0).2.2 c1).2.2 c2).1 c4).1 c5).2⟩) (fun (c5 : (e == 1) = false) => ⟨_, _, ccuts_6 x0 x1 x2 x3 x4 x5 x6 x7 x8 x9 x10 x11 x12 x13 x14 x15 x16 x17 x18 x19 s e cut by_ b1 b2 (c5) (c4) (c2) (((h.2.2 c0).2.2 c1).1) (c1) ((h.2.2 c0).1) (c0) (h.1), (((((h.2.2 c0).2.2 c1).2.2 c2).1 c4).2 c5)⟩)) (fun (c4 : ((↑(ByteArray.size s) : Int) == 0) = false) => brE (fun (c6 : decide (Int.tmod cut (↑(ByteArray.size s) : Int) < 0) = true) => ⟨_, _, ccuts_7 x0 x1 x2 x3 x4 x5 x6 x7 x8 x9 x10 x11 x12 x13 x14 x15 x16 x17 x18 x19 s e cut by_ b1 b2 ((((((h.2.2 c0).2.2 c1).2.2 c2).2 c4).2.1 c6).2.2.2.2.1) ((((((h.2.2 c0).2.2 c1).2.2 c2).2 c4).2.1 c6).2.2.2.1) ((((((h.2.2 c0).2.2 c1).2.2 c2).2 c4).2.1 c6).2.2.1) ((((((h.2.2 c0).2.2 c1).2.2 c2).2 c4).2.1 c6).2.1) ((((((h.2.2 c0).2.2 c1).2.2 c2).2 c4).2.1 c6).1) (c6) (((((h.2.2 c0).2.2 c1).2.2 c2).2 c4).1) (c4) (c2) (((h.2.2 c0).2.2 c1).1) (c1) ((h.2.2 c0).1) (c0) (h.1), (((((h.2.2 c0).2.2 c1).2.2 c2).2 c4).2.1 c6).2.2.2.2.2⟩) (fun (c6 : decide (Int.tmod cut (↑(ByteArray.size s) : Int) < 0) = false) => ⟨_, _, ccuts_8 x0 x1 x2 x3 x4 x5 x6 x7 x8 x9 x10 x11 x12 x13 x14 x15 x16 x17 x18 x19 s e cut by_ b1 b2 ((((((h.2.2 c0).2.2 c1).2.2 c2).2 c4).2.2 c6).2.2.2.2.1) ((((((h.2.2 c0).2.2 c1).2.2 c2).2 c4).2.2 c6).2.2.2.1) ((((((h.2.2 c0).2.2 c1).2.2 c2).2 c4).2.2 c6).2.2.1) ((((((h.2.2 c0).2.2 c1).2.2 c2).2 c4).2.2 c6).2.1) ((((((h.2.2 c0).2.2 c1).2.2 c2).2 c4).2.2 c6).1) (c6) (((((h.2.2 c0).2.2 c1).2.2 c2).2 c4).1) (c4) (c2) (((h.2.2 c0).2.2 c1).1) (c1) ((h.2.2 c0).1) (c0) (h.1), (((((h.2.2 c0).2.2 c1).2.2 c2).2 c4).2.2 c6).2.2.2.2.2⟩)))))


end Go.L12
end

section
set_option linter.unusedVariables false
set_option linter.unusedSimpArgs false
set_option maxRecDepth 100000
namespace Go.L12
open Go Go.Abs Go.Proofs
theorem put_any (c0 c1 c2 c3 : Int) (c4 c5 c6 c7 c8 c9 : ByteArray) (c10 c11 c12 c13 c14 c15 c16 : Int) (c17 : Bool) (c18 : Int) (c19 : ByteArray) (hb : bdC c0 c1 c2 c3 c10 c11 c12 c13 c14 c15 c16 c18) : ∃ (s : ByteArray) (e : Int), FOk Try.prog 15 [.agg (clC0 c0 c1 c2 c3 c4 c5 c6 c7 c8 c9 c10 c11 c12 c13 c14 c15 c16 c17 c18 c19)] [] (.tuple [.str s, .int .i64 e]) [] ∧ FOk Try.prog 16 [.agg (clC0 c0 c1 c2 c3 c4 c5 c6 c7 c8 c9 c10 c11 c12 c13 c14 c15 c16 c17 c18 c19)] [] (.tuple [.str s, .int .i64 e]) [] ∧ ((e = 0 ∧ Is 67 TC s (vsC c0 c1 c2 c3 c4 c5 c6 c7 c8 c9 c10 c11 c12 c13 c14 c15 c16 c17 c18 c19)) ∨ e = 1) := by
  cases h : putAll TC (vsC c0 c1 c2 c3 c4 c5 c6 c7 c8 c9 c10 c11 c12 c13 c14 c15 c16 c17 c18 c19) with
  | none => exact ⟨_, _, putC_no c0 c1 c2 c3 c4 c5 c6 c7 c8 c9 c10 c11 c12 c13 c14 c15 c16 c17 c18 c19 hb h, rputC_no c0 c1 c2 c3 c4 c5 c6 c7 c8 c9 c10 c11 c12 c13 c14 c15 c16 c17 c18 c19 h, .inr rfl⟩
  | some b => exact ⟨_, _, putC_ok c0 c1 c2 c3 c4 c5 c6 c7 c8 c9 c10 c11 c12 c13 c14 c15 c16 c17 c18 c19 hb b h, rputC_ok c0 c1 c2 c3 c4 c5 c6 c7 c8 c9 c10 c11 c12 c13 c14 c15 c16 c17 c18 c19 b h, .inl ⟨rfl, Is.put (allFC c0 c1 c2 c3 c4 c5 c6 c7 c8 c9 c10 c11 c12 c13 c14 c15 c16 c17 c18 c19) h⟩⟩
end Go.L12
end

section
set_option linter.unusedVariables false
set_option linter.unusedSimpArgs false
set_option maxRecDepth 100000
namespace Go.L12
open Go Go.Abs Go.Proofs

theorem shortP (x3 : Int) (x4 x5 x6 x7 x8 x9 : ByteArray) (x10 x11 : Int) : ∃ b, FOk Try.prog 12 [.agg (rQ x3 x4 x5 x6 x7 x8 x9 x10 x11)] [] (.bool b) [] := by
  have key : ∀ b, short_T x3 x4 x5 x6 x7 x8 x9 x10 x11 (fun r σ => r = .bool b ∧ σ = []) → ∃ b, FOk Try.prog 12 [.agg (rQ x3 x4 x5 x6 x7 x8 x9 x10 x11)] [] (.bool b) [] := fun b h => ⟨b, FOk.wp (short_wp x3 x4 x5 x6 x7 x8 x9 x10 x11 h)⟩
  cases h4 : litB x4 with
  | false => exact key false ⟨fun c => (by rw [h4] at c; cases c), fun _ => ⟨rfl, rfl⟩⟩
  | true =>
  cases h5 : litB x5 with
  | false => exact key false ⟨fun _ => ⟨fun c => (by rw [h5] at c; cases c), fun _ => ⟨rfl, rfl⟩⟩, fun c => (by rw [h4] at c; cases c)⟩
  | true =>
  cases h6 : litB x6 with
  | false => exact key false ⟨fun _ => ⟨fun _ => ⟨fun c => (by rw [h6] at c; cases c), fun _ => ⟨rfl, rfl⟩⟩, fun c => (by rw [h5] at c; cases c)⟩, fun c => (by rw [h4] at c; cases c)⟩
  | true =>
  cases h7 : litB x7 with
  | false => exact key false ⟨fun _ => ⟨fun _ => ⟨fun _ => ⟨fun c => (by rw [h7] at c; cases c), fun _ => ⟨rfl, rfl⟩⟩, fun c => (by rw [h6] at c; cases c)⟩, fun c => (by rw [h5] at c; cases c)⟩, fun c => (by rw [h4] at c; cases c)⟩
  | true =>
  cases h8 : litB x8 with
  | false => exact key false ⟨fun _ => ⟨fun _ => ⟨fun _ => ⟨fun _ => ⟨fun c => (by rw [h8] at c; cases c), fun _ => ⟨rfl, rfl⟩⟩, fun c => (by rw [h7] at c; cases c)⟩, fun c => (by rw [h6] at c; cases c)⟩, fun c => (by rw [h5] at c; cases c)⟩, fun c => (by rw [h4] at c; cases c)⟩
  | true => exact key (litB x9) ⟨fun _ => ⟨fun _ => ⟨fun _ => ⟨fun _ => ⟨fun _ => ⟨rfl, rfl⟩, fun c => (by rw [h8] at c; cases c)⟩, fun c => (by rw [h7] at c; cases c)⟩, fun c => (by rw [h6] at c; cases c)⟩, fun c => (by rw [h5] at c; cases c)⟩, fun c => (by rw [h4] at c; cases c)⟩
theorem pI_lt {n : Int} (h0 : 0 ≤ n) (h : n < 128) : pI n = some [UInt8.ofNat n.toNat] := by
  unfold pI
  rw [if_pos (show nOk n = true from decide_eq_true (by omega)), vbl_lt (by omega)]
theorem pS_lt {s : ByteArray} (h : s.size < 128) : pS s = some (UInt8.ofNat s.size :: lB s) := by
  unfold pS
  rw [if_pos (by omega), vbl_lt h]
  rfl
theorem awakeP : FOk Try.prog 14 [] [] (.bool true) [] := by
  have q : putAll TQ (vsQ 5 1 6 ⟨#[119]⟩ ⟨#[]⟩ ⟨#[]⟩ ⟨#[]⟩ ⟨#[]⟩ ⟨#[]⟩ 0 0) = some [5, 1, 6, 1, 119, 0, 0, 0, 0, 0, 0, 0] := by
    rw [osQ, pI_lt (by omega) (by omega), pI_lt (by omega) (by omega), pI_lt (by omega) (by omega), pI_lt (by omega) (by omega), pS_lt (by decide), pS_lt (by decide)]
    rfl
  have hq := putQ_ok 5 1 6 ⟨#[119]⟩ ⟨#[]⟩ ⟨#[]⟩ ⟨#[]⟩ ⟨#[]⟩ ⟨#[]⟩ 0 0 (by unfold bdQ; omega) _ q
  obtain ⟨b, hb⟩ : ∃ b, putAll TC (vsC 9 0 0 0 ⟨#[]⟩ ⟨#[]⟩ ⟨#[]⟩ ⟨#[]⟩ ⟨#[]⟩ ⟨#[]⟩ 0 0 0 0 3 0 0 false 0 ⟨#[]⟩) = some b := by
    rw [osC, pI_lt (n := 9) (by omega) (by omega), pI_lt (n := 0) (by omega) (by omega), pI_lt (n := 3) (by omega) (by omega), pS_lt (by decide)]
    exact ⟨_, rfl⟩
  have hc := putC_ok 9 0 0 0 ⟨#[]⟩ ⟨#[]⟩ ⟨#[]⟩ ⟨#[]⟩ ⟨#[]⟩ ⟨#[]⟩ 0 0 0 0 3 0 0 false 0 ⟨#[]⟩ (by unfold bdC; omega) b hb
  have hf := fromC_is 9 0 0 0 ⟨#[]⟩ ⟨#[]⟩ ⟨#[]⟩ ⟨#[]⟩ ⟨#[]⟩ ⟨#[]⟩ 0 0 0 0 3 0 0 false 0 ⟨#[]⟩ (Is.put (c := 67) (allFC _ _ _ _ _ _ _ _ _ _ _ _ _ _ _ _ _ _ _ _) hb)
  refine FOk.wp (awake_wp (bS (67 :: b)) ⟨#[]⟩ 0 0 0 ?_)
  unfold awake_T
  exact ⟨hq, hc, hf, rfl, rfl⟩
end Go.L12
end

section
set_option linter.unusedVariables false
set_option linter.unusedSimpArgs false
set_option maxRecDepth 100000
namespace Go.L12
open Go Go.Abs Go.Proofs

theorem cuts_law (x0 x1 x2 x3 : Int) (x4 x5 x6 x7 x8 x9 : ByteArray) (x10 x11 x12 x13 x14 x15 x16 : Int) (x17 : Bool) (x18 : Int) (x19 : ByteArray) (cut by_ : Int) (hb : bdC x0 x1 x2 x3 x10 x11 x12 x13 x14 x15 x16 x18) : FOk Try.prog 5 [.agg (clC0 x0 x1 x2 x3 x4 x5 x6 x7 x8 x9 x10 x11 x12 x13 x14 x15 x16 x17 x18 x19), .int .i64 cut, .int .i64 by_] [] (.bool true) [] := by
  obtain ⟨b1, h1⟩ := shortP x3 x4 x5 x6 x7 x8 x9 x10 x11
  obtain ⟨s, e, p1, _, hi⟩ := put_any x0 x1 x2 x3 x4 x5 x6 x7 x8 x9 x10 x11 x12 x13 x14 x15 x16 x17 x18 x19 hb
  refine FOk.wp (ccuts_wp x0 x1 x2 x3 x4 x5 x6 x7 x8 x9 x10 x11 x12 x13 x14 x15 x16 x17 x18 x19 s e cut by_ b1 (litB x19) ?_)
  unfold ccuts_T
  refine ⟨h1, fun _ => ⟨awakeP, rfl, rfl⟩, fun _ => ⟨lightP x19, fun _ => ⟨awakeP, rfl, rfl⟩, fun _ => ⟨p1, fun c => ?_, fun ce => ?_⟩⟩⟩
  · rcases hi with ⟨rfl, hi⟩ | rfl
    · exact absurd c (by decide)
    · exact ⟨fun _ => ⟨awakeP, rfl, rfl⟩, fun c => absurd c (by decide)⟩
  · rcases hi with ⟨rfl, hi⟩ | rfl
    · have hpos : 0 < s.size := by
        obtain ⟨s', k1, _⟩ := hi
        rw [← lB_length, k1]; simp
      obtain ⟨_, b, kb1, kb2⟩ := hi.back
      have hsz : s.size ≤ 6000001 := by
        have e2 := kb1
        rw [osC, seqL_eq] at e2
        split at e2
        · cases e2
        · injection e2 with e2
          have gl : ∀ (os : List (Option (List UInt8))), (∀ o ∈ os, (got o).length ≤ 300000) → (os.flatMap got).length ≤ os.length * 300000 := by
            intro os
            induction os with
            | nil => intro _; simp
            | cons o os ih =>
              intro h
              have a1 := h o (by simp)
              have a2 := ih fun o ho => h o (by simp [ho])
              rw [List.flatMap_cons, List.length_append, List.length_cons]
              omega
          have := gl _ (show ∀ o ∈ [pI x0, pI x1, pI x2, pI x12, pI x13, pI x14, pI x15, pI x16, pB x17, pI x18, pI x3, pS x4, pS x5, pS x6, pS x7, pS x8, pS x9, pI x10, pI x11, pS x19], (got o).length ≤ 300000 by
            intro o ho
            simp only [List.mem_cons, List.not_mem_nil, or_false] at ho
            rcases ho with rfl | rfl | rfl | rfl | rfl | rfl | rfl | rfl | rfl | rfl | rfl | rfl | rfl | rfl | rfl | rfl | rfl | rfl | rfl | rfl <;> first | exact got_pI _ | exact got_pS _ | simp [pB])
          rw [e2] at this
          rw [kb2, bS_size, List.length_cons]
          simp only [List.length_cons, List.length_nil] at this
          omega
      refine ⟨fun c => absurd (eq_of_beq c) (by omega), fun _ => ⟨decide_eq_true (by omega), ?_⟩⟩
      have ht := Int.natAbs_tmod cut (s.size : Int)
      have hm := Nat.mod_lt cut.natAbs (show 0 < s.size from hpos)
      rw [Int.natAbs_natCast] at ht
      have pre : ∀ (k : Int), 0 ≤ k → k < s.size → FOk Try.prog 17 [.str (s.extract 0 k.toNat)] [] _ [] := fun k k0 k1 => fromC_none (s := s.extract 0 k.toNat) fun vs hv => by
        have hp : lB (s.extract 0 k.toNat) <+: lB s := by rw [lB_extract, List.drop_zero, Nat.sub_zero]; exact List.take_prefix _ _
        have := hv.free hi hp
        have := congrArg ByteArray.size this
        rw [← lB_length, lB_extract, List.drop_zero, Nat.sub_zero, List.length_take, lB_length] at this
        omega
      have suf : ∀ (z : ByteArray), z.size = 1 → FOk Try.prog 17 [.str (s ++ z)] [] _ [] := fun z hz => fromC_none (s := s ++ z) fun vs hv => by
        have hp : lB s <+: lB (s ++ z) := by rw [lB_append]; exact List.prefix_append _ _
        have := hi.free hv hp
        have := congrArg ByteArray.size this
        rw [ByteArray.size_append] at this
        omega
      refine ⟨fun c => ?_, fun c => ?_⟩
      · have c := of_decide_eq_true c
        have w : IntKind.wrap .i64 (0 - Int.tmod cut (s.size : Int)) = 0 - Int.tmod cut (s.size : Int) := wrapS (by omega) (by omega)
        rw [w]
        exact ⟨decide_eq_true (by omega), pre _ (by omega) (by omega), decide_eq_true (by omega), suf _ rfl, awakeP, rfl, rfl⟩
      · have c := of_decide_eq_false c
        exact ⟨decide_eq_true (by omega), pre _ (by omega) (by omega), decide_eq_true (by omega), suf _ rfl, awakeP, rfl, rfl⟩
    · exact absurd ce (by decide)
end Go.L12
end

section
set_option linter.unusedVariables false
set_option linter.unusedSimpArgs false
set_option maxRecDepth 100000
namespace Go.L12
open Go Go.Abs Go.Proofs
theorem i64_wf {m : Int} (h : (Lit.int IntKind.i64 m).wf) : -9223372036854775808 ≤ m ∧ m < 9223372036854775808 := by
  simp [Lit.wf, IntKind.min, IntKind.signed, IntKind.bits] at h
  omega
theorem cmd_arg {t : TypeId} (ht : isAggT Try.prog t = true) {a : AVal} (h : okArg Try.prog t [.int .i64, .int .i64, .int .i64, .int .i64, .str, .str, .str, .str, .str, .str, .int .i64, .int .i64, .int .i64, .int .i64, .int .i64, .int .i64, .int .i64, .bool, .int .i64, .str] a) : ∃ (x0 x1 x2 x3 : Int) (x4 x5 x6 x7 x8 x9 : ByteArray) (x10 x11 x12 x13 x14 x15 x16 : Int) (x17 : Bool) (x18 : Int) (x19 : ByteArray), a = .agg (clC0 x0 x1 x2 x3 x4 x5 x6 x7 x8 x9 x10 x11 x12 x13 x14 x15 x16 x17 x18 x19) ∧ bdC x0 x1 x2 x3 x10 x11 x12 x13 x14 x15 x16 x18 := by
  unfold okArg at h
  rw [if_pos ht] at h
  obtain ⟨cs, rfl, h⟩ := h
  simp only [okKs, okK] at h
  obtain ⟨v, us, rfl, hv, h⟩ := h
  obtain ⟨x0, rfl, h0⟩ := hv
  obtain ⟨v, us, rfl, hv, h⟩ := h
  obtain ⟨x1, rfl, h1⟩ := hv
  obtain ⟨v, us, rfl, hv, h⟩ := h
  obtain ⟨x2, rfl, h2⟩ := hv
  obtain ⟨v, us, rfl, hv, h⟩ := h
  obtain ⟨x3, rfl, h3⟩ := hv
  obtain ⟨v, us, rfl, hv, h⟩ := h
  obtain ⟨x4, rfl, _⟩ := hv
  obtain ⟨v, us, rfl, hv, h⟩ := h
  obtain ⟨x5, rfl, _⟩ := hv
  obtain ⟨v, us, rfl, hv, h⟩ := h
  obtain ⟨x6, rfl, _⟩ := hv
  obtain ⟨v, us, rfl, hv, h⟩ := h
  obtain ⟨x7, rfl, _⟩ := hv
  obtain ⟨v, us, rfl, hv, h⟩ := h
  obtain ⟨x8, rfl, _⟩ := hv
  obtain ⟨v, us, rfl, hv, h⟩ := h
  obtain ⟨x9, rfl, _⟩ := hv
  obtain ⟨v, us, rfl, hv, h⟩ := h
  obtain ⟨x10, rfl, h10⟩ := hv
  obtain ⟨v, us, rfl, hv, h⟩ := h
  obtain ⟨x11, rfl, h11⟩ := hv
  obtain ⟨v, us, rfl, hv, h⟩ := h
  obtain ⟨x12, rfl, h12⟩ := hv
  obtain ⟨v, us, rfl, hv, h⟩ := h
  obtain ⟨x13, rfl, h13⟩ := hv
  obtain ⟨v, us, rfl, hv, h⟩ := h
  obtain ⟨x14, rfl, h14⟩ := hv
  obtain ⟨v, us, rfl, hv, h⟩ := h
  obtain ⟨x15, rfl, h15⟩ := hv
  obtain ⟨v, us, rfl, hv, h⟩ := h
  obtain ⟨x16, rfl, h16⟩ := hv
  obtain ⟨v, us, rfl, hv, h⟩ := h
  obtain ⟨x17, rfl⟩ := hv
  obtain ⟨v, us, rfl, hv, h⟩ := h
  obtain ⟨x18, rfl, h18⟩ := hv
  obtain ⟨v, us, rfl, hv, h⟩ := h
  obtain ⟨x19, rfl, _⟩ := hv
  subst h
  exact ⟨x0, x1, x2, x3, x4, x5, x6, x7, x8, x9, x10, x11, x12, x13, x14, x15, x16, x17, x18, x19, rfl, ⟨i64_wf h0, i64_wf h1, i64_wf h2, i64_wf h3, i64_wf h10, i64_wf h11, i64_wf h12, i64_wf h13, i64_wf h14, i64_wf h15, i64_wf h16, i64_wf h18⟩⟩
end Go.L12
end

section
set_option linter.unusedVariables false
set_option linter.unusedSimpArgs false
set_option maxRecDepth 100000
namespace Go.L12
open Go Go.Abs Go.Proofs
theorem cuts_row (xs : List AVal) (h : okArgs Try.prog Try.f5.params.toList [[.int .i64, .int .i64, .int .i64, .int .i64, .str, .str, .str, .str, .str, .str, .int .i64, .int .i64, .int .i64, .int .i64, .int .i64, .int .i64, .int .i64, .bool, .int .i64, .str], [.int .i64], [.int .i64]] xs) : ∃ σ', FOk Try.prog 5 xs [] (.bool true) σ' := by
  obtain ⟨a, bs, rfl, h1, a2, bs2, rfl, h2, a3, bs3, rfl, h3, h4⟩ := h
  cases h4
  obtain ⟨x0, x1, x2, x3, x4, x5, x6, x7, x8, x9, x10, x11, x12, x13, x14, x15, x16, x17, x18, x19, rfl, hx⟩ := cmd_arg (by kernel_rfl) h1
  unfold okArg at h2 h3
  rw [if_neg (by rw [show isAggT Try.prog 3 = false from by kernel_rfl]; simp)] at h2 h3
  simp only [okKs, okK] at h2 h3
  obtain ⟨v, us, e, ⟨m, rfl, hm⟩, rfl⟩ := h2
  cases e
  obtain ⟨v, us, e, ⟨n, rfl, hn⟩, rfl⟩ := h3
  cases e
  exact ⟨_, cuts_law x0 x1 x2 x3 x4 x5 x6 x7 x8 x9 x10 x11 x12 x13 x14 x15 x16 x17 x18 x19 m n hx⟩
end Go.L12
end

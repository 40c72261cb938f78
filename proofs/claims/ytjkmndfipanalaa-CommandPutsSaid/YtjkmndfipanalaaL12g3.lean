import Derived.Test.YtjkmndfipanalaaL12g2
section
set_option linter.unusedVariables false
set_option maxRecDepth 100000
namespace Go.L12
open Go Go.Abs Go.Proofs
theorem cputs_1 (x0 x1 x2 x3 : Int) (x4 x5 x6 x7 x8 x9 : ByteArray) (x10 x11 x12 x13 x14 x15 x16 : Int) (x17 : Bool) (x18 : Int) (x19 s : ByteArray) (e : Int) (b1 b2 : Bool)
    (h1 : FOk Try.prog 14 [] [] (AVal.bool true) [])
    (h2 : (!b1) = true)
    (h3 : FOk Try.prog 12 [AVal.agg (rQ x3 x4 x5 x6 x7 x8 x9 x10 x11)] [] (AVal.bool b1) []) :
    FOk Try.prog 3 ([AVal.agg (rC x0 x1 x2 x3 x4 x5 x6 x7 x8 x9 x10 x11 x12 x13 x14 x15 x16 x17 x18 x19)]) ([]) (AVal.bool true) ([]) :=
  (evalF_ok followed Try.func3 (by kernel_rfl) (show evalF Try.prog Try.f3 ([AVal.agg (rC x0 x1 x2 x3 x4 x5 x6 x7 x8 x9 x10 x11 x12 x13 x14 x15 x16 x17 x18 x19)]) ([]) ([Dec.use [] [AVal.agg (rQ x3 x4 x5 x6 x7 x8 x9 x10 x11)] [] (AVal.bool b1) [], Dec.br true, Dec.use [] [] [] (AVal.bool true) []]) = .ok (FRes.mk (AVal.bool true) ([AObj.rows true 20 [(rC x0 x1 x2 x3 x4 x5 x6 x7 x8 x9 x10 x11 x12 x13 x14 x15 x16 x17 x18 x19)]]) ((Owed.use (owed Try.prog 0) 14 [] [] [AObj.rows true 20 [(rC x0 x1 x2 x3 x4 x5 x6 x7 x8 x9 x10 x11 x12 x13 x14 x15 x16 x17 x18 x19)]] [] [] (AVal.bool true) []) :: (((!b1) = true) :: ((Owed.use (owed Try.prog 0) 12 [] [AVal.agg (rQ x3 x4 x5 x6 x7 x8 x9 x10 x11)] [AObj.rows true 20 [(rC x0 x1 x2 x3 x4 x5 x6 x7 x8 x9 x10 x11 x12 x13 x14 x15 x16 x17 x18 x19)]] [AVal.agg (rQ x3 x4 x5 x6 x7 x8 x9 x10 x11)] [] (AVal.bool b1) []) :: (tr 3 ++ []))))) by kernel_rfl) (allP_of ⟨⟨h1, rfl, rfl, rfl⟩, ⟨h2, ⟨⟨h3, rfl, rfl, rfl⟩, (trC 3 trivial)⟩⟩⟩)).move ([]) (by kernel_rfl) (by kernel_rfl) (by kernel_rfl)

theorem cputs_2 (x0 x1 x2 x3 : Int) (x4 x5 x6 x7 x8 x9 : ByteArray) (x10 x11 x12 x13 x14 x15 x16 : Int) (x17 : Bool) (x18 : Int) (x19 s : ByteArray) (e : Int) (b1 b2 : Bool)
    (h1 : FOk Try.prog 14 [] [] (AVal.bool true) [])
    (h2 : (!b2) = true)
    (h3 : FOk Try.prog 13 [AVal.str x19] [] (AVal.bool b2) [])
    (h4 : (!b1) = false)
    (h5 : FOk Try.prog 12 [AVal.agg (rQ x3 x4 x5 x6 x7 x8 x9 x10 x11)] [] (AVal.bool b1) []) :
    FOk Try.prog 3 ([AVal.agg (rC x0 x1 x2 x3 x4 x5 x6 x7 x8 x9 x10 x11 x12 x13 x14 x15 x16 x17 x18 x19)]) ([]) (AVal.bool true) ([]) :=
  (evalF_ok followed Try.func3 (by kernel_rfl) (show evalF Try.prog Try.f3 ([AVal.agg (rC x0 x1 x2 x3 x4 x5 x6 x7 x8 x9 x10 x11 x12 x13 x14 x15 x16 x17 x18 x19)]) ([]) ([Dec.use [] [AVal.agg (rQ x3 x4 x5 x6 x7 x8 x9 x10 x11)] [] (AVal.bool b1) [], Dec.br false, Dec.use [] [AVal.str x19] [] (AVal.bool b2) [], Dec.br true, Dec.use [] [] [] (AVal.bool true) []]) = .ok (FRes.mk (AVal.bool true) ([AObj.rows true 20 [(rC x0 x1 x2 x3 x4 x5 x6 x7 x8 x9 x10 x11 x12 x13 x14 x15 x16 x17 x18 x19)]]) ((Owed.use (owed Try.prog 0) 14 [] [] [AObj.rows true 20 [(rC x0 x1 x2 x3 x4 x5 x6 x7 x8 x9 x10 x11 x12 x13 x14 x15 x16 x17 x18 x19)]] [] [] (AVal.bool true) []) :: (((!b2) = true) :: ((Owed.use (owed Try.prog 0) 13 [] [AVal.str x19] [AObj.rows true 20 [(rC x0 x1 x2 x3 x4 x5 x6 x7 x8 x9 x10 x11 x12 x13 x14 x15 x16 x17 x18 x19)]] [AVal.str x19] [] (AVal.bool b2) []) :: (tr 3 ++ (((!b1) = false) :: ((Owed.use (owed Try.prog 0) 12 [] [AVal.agg (rQ x3 x4 x5 x6 x7 x8 x9 x10 x11)] [AObj.rows true 20 [(rC x0 x1 x2 x3 x4 x5 x6 x7 x8 x9 x10 x11 x12 x13 x14 x15 x16 x17 x18 x19)]] [AVal.agg (rQ x3 x4 x5 x6 x7 x8 x9 x10 x11)] [] (AVal.bool b1) []) :: (tr 3 ++ [])))))))) by kernel_rfl) (allP_of ⟨⟨h1, rfl, rfl, rfl⟩, ⟨h2, ⟨⟨h3, rfl, rfl, rfl⟩, (trC 3 ⟨h4, ⟨⟨h5, rfl, rfl, rfl⟩, (trC 3 trivial)⟩⟩)⟩⟩⟩)).move ([]) (by kernel_rfl) (by kernel_rfl) (by kernel_rfl)

theorem cputs_3 (x0 x1 x2 x3 : Int) (x4 x5 x6 x7 x8 x9 : ByteArray) (x10 x11 x12 x13 x14 x15 x16 : Int) (x17 : Bool) (x18 : Int) (x19 s : ByteArray) (e : Int) (b1 b2 : Bool)
    (h1 : (!ByteArray.toList s == ByteArray.toList s) = true)
    (h2 : FOk Try.prog 16 [AVal.agg (rC x0 x1 x2 x3 x4 x5 x6 x7 x8 x9 x10 x11 x12 x13 x14 x15 x16 x17 x18 x19)] [] (AVal.tuple [AVal.str s, AVal.int IntKind.i64 e]) [])
    (h3 : FOk Try.prog 15 [AVal.agg (rC x0 x1 x2 x3 x4 x5 x6 x7 x8 x9 x10 x11 x12 x13 x14 x15 x16 x17 x18 x19)] [] (AVal.tuple [AVal.str s, AVal.int IntKind.i64 e]) [])
    (h4 : (!b2) = false)
    (h5 : FOk Try.prog 13 [AVal.str x19] [] (AVal.bool b2) [])
    (h6 : (!b1) = false)
    (h7 : FOk Try.prog 12 [AVal.agg (rQ x3 x4 x5 x6 x7 x8 x9 x10 x11)] [] (AVal.bool b1) []) :
    FOk Try.prog 3 ([AVal.agg (rC x0 x1 x2 x3 x4 x5 x6 x7 x8 x9 x10 x11 x12 x13 x14 x15 x16 x17 x18 x19)]) ([]) (AVal.bool false) ([]) :=
  (evalF_ok followed Try.func3 (by kernel_rfl) (show evalF Try.prog Try.f3 ([AVal.agg (rC x0 x1 x2 x3 x4 x5 x6 x7 x8 x9 x10 x11 x12 x13 x14 x15 x16 x17 x18 x19)]) ([]) ([Dec.use [] [AVal.agg (rQ x3 x4 x5 x6 x7 x8 x9 x10 x11)] [] (AVal.bool b1) [], Dec.br false, Dec.use [] [AVal.str x19] [] (AVal.bool b2) [], Dec.br false, Dec.use [] [AVal.agg (rC x0 x1 x2 x3 x4 x5 x6 x7 x8 x9 x10 x11 x12 x13 x14 x15 x16 x17 x18 x19)] [] (AVal.tuple [AVal.str s, AVal.int IntKind.i64 e]) [], Dec.use [] [AVal.agg (rC x0 x1 x2 x3 x4 x5 x6 x7 x8 x9 x10 x11 x12 x13 x14 x15 x16 x17 x18 x19)] [] (AVal.tuple [AVal.str s, AVal.int IntKind.i64 e]) [], Dec.br true]) = .ok (FRes.mk (AVal.bool false) ([AObj.rows true 20 [(rC x0 x1 x2 x3 x4 x5 x6 x7 x8 x9 x10 x11 x12 x13 x14 x15 x16 x17 x18 x19)]]) (((!ByteArray.toList s == ByteArray.toList s) = true) :: ((Owed.use (owed Try.prog 0) 16 [] [AVal.agg (rC x0 x1 x2 x3 x4 x5 x6 x7 x8 x9 x10 x11 x12 x13 x14 x15 x16 x17 x18 x19)] [AObj.rows true 20 [(rC x0 x1 x2 x3 x4 x5 x6 x7 x8 x9 x10 x11 x12 x13 x14 x15 x16 x17 x18 x19)]] [AVal.agg (rC x0 x1 x2 x3 x4 x5 x6 x7 x8 x9 x10 x11 x12 x13 x14 x15 x16 x17 x18 x19)] [] (AVal.tuple [AVal.str s, AVal.int IntKind.i64 e]) []) :: (tr 3 ++ ((Owed.use (owed Try.prog 0) 15 [] [AVal.agg (rC x0 x1 x2 x3 x4 x5 x6 x7 x8 x9 x10 x11 x12 x13 x14 x15 x16 x17 x18 x19)] [AObj.rows true 20 [(rC x0 x1 x2 x3 x4 x5 x6 x7 x8 x9 x10 x11 x12 x13 x14 x15 x16 x17 x18 x19)]] [AVal.agg (rC x0 x1 x2 x3 x4 x5 x6 x7 x8 x9 x10 x11 x12 x13 x14 x15 x16 x17 x18 x19)] [] (AVal.tuple [AVal.str s, AVal.int IntKind.i64 e]) []) :: (tr 3 ++ (((!b2) = false) :: ((Owed.use (owed Try.prog 0) 13 [] [AVal.str x19] [AObj.rows true 20 [(rC x0 x1 x2 x3 x4 x5 x6 x7 x8 x9 x10 x11 x12 x13 x14 x15 x16 x17 x18 x19)]] [AVal.str x19] [] (AVal.bool b2) []) :: (tr 3 ++ (((!b1) = false) :: ((Owed.use (owed Try.prog 0) 12 [] [AVal.agg (rQ x3 x4 x5 x6 x7 x8 x9 x10 x11)] [AObj.rows true 20 [(rC x0 x1 x2 x3 x4 x5 x6 x7 x8 x9 x10 x11 x12 x13 x14 x15 x16 x17 x18 x19)]] [AVal.agg (rQ x3 x4 x5 x6 x7 x8 x9 x10 x11)] [] (AVal.bool b1) []) :: (tr 3 ++ [])))))))))))) by kernel_rfl) (allP_of ⟨h1, ⟨⟨h2, rfl, rfl, rfl⟩, (trC 3 ⟨⟨h3, rfl, rfl, rfl⟩, (trC 3 ⟨h4, ⟨⟨h5, rfl, rfl, rfl⟩, (trC 3 ⟨h6, ⟨⟨h7, rfl, rfl, rfl⟩, (trC 3 trivial)⟩⟩)⟩⟩)⟩)⟩⟩)).move ([]) (by kernel_rfl) (by kernel_rfl) (by kernel_rfl)

theorem cputs_4 (x0 x1 x2 x3 : Int) (x4 x5 x6 x7 x8 x9 : ByteArray) (x10 x11 x12 x13 x14 x15 x16 : Int) (x17 : Bool) (x18 : Int) (x19 s : ByteArray) (e : Int) (b1 b2 : Bool)
    (h1 : (e != e) = true)
    (h2 : (!ByteArray.toList s == ByteArray.toList s) = false)
    (h3 : FOk Try.prog 16 [AVal.agg (rC x0 x1 x2 x3 x4 x5 x6 x7 x8 x9 x10 x11 x12 x13 x14 x15 x16 x17 x18 x19)] [] (AVal.tuple [AVal.str s, AVal.int IntKind.i64 e]) [])
    (h4 : FOk Try.prog 15 [AVal.agg (rC x0 x1 x2 x3 x4 x5 x6 x7 x8 x9 x10 x11 x12 x13 x14 x15 x16 x17 x18 x19)] [] (AVal.tuple [AVal.str s, AVal.int IntKind.i64 e]) [])
    (h5 : (!b2) = false)
    (h6 : FOk Try.prog 13 [AVal.str x19] [] (AVal.bool b2) [])
    (h7 : (!b1) = false)
    (h8 : FOk Try.prog 12 [AVal.agg (rQ x3 x4 x5 x6 x7 x8 x9 x10 x11)] [] (AVal.bool b1) []) :
    FOk Try.prog 3 ([AVal.agg (rC x0 x1 x2 x3 x4 x5 x6 x7 x8 x9 x10 x11 x12 x13 x14 x15 x16 x17 x18 x19)]) ([]) (AVal.bool false) ([]) :=
  (evalF_ok followed Try.func3 (by kernel_rfl) (show evalF Try.prog Try.f3 ([AVal.agg (rC x0 x1 x2 x3 x4 x5 x6 x7 x8 x9 x10 x11 x12 x13 x14 x15 x16 x17 x18 x19)]) ([]) ([Dec.use [] [AVal.agg (rQ x3 x4 x5 x6 x7 x8 x9 x10 x11)] [] (AVal.bool b1) [], Dec.br false, Dec.use [] [AVal.str x19] [] (AVal.bool b2) [], Dec.br false, Dec.use [] [AVal.agg (rC x0 x1 x2 x3 x4 x5 x6 x7 x8 x9 x10 x11 x12 x13 x14 x15 x16 x17 x18 x19)] [] (AVal.tuple [AVal.str s, AVal.int IntKind.i64 e]) [], Dec.use [] [AVal.agg (rC x0 x1 x2 x3 x4 x5 x6 x7 x8 x9 x10 x11 x12 x13 x14 x15 x16 x17 x18 x19)] [] (AVal.tuple [AVal.str s, AVal.int IntKind.i64 e]) [], Dec.br false, Dec.br true]) = .ok (FRes.mk (AVal.bool false) ([AObj.rows true 20 [(rC x0 x1 x2 x3 x4 x5 x6 x7 x8 x9 x10 x11 x12 x13 x14 x15 x16 x17 x18 x19)]]) (((e != e) = true) :: (((!ByteArray.toList s == ByteArray.toList s) = false) :: ((Owed.use (owed Try.prog 0) 16 [] [AVal.agg (rC x0 x1 x2 x3 x4 x5 x6 x7 x8 x9 x10 x11 x12 x13 x14 x15 x16 x17 x18 x19)] [AObj.rows true 20 [(rC x0 x1 x2 x3 x4 x5 x6 x7 x8 x9 x10 x11 x12 x13 x14 x15 x16 x17 x18 x19)]] [AVal.agg (rC x0 x1 x2 x3 x4 x5 x6 x7 x8 x9 x10 x11 x12 x13 x14 x15 x16 x17 x18 x19)] [] (AVal.tuple [AVal.str s, AVal.int IntKind.i64 e]) []) :: (tr 3 ++ ((Owed.use (owed Try.prog 0) 15 [] [AVal.agg (rC x0 x1 x2 x3 x4 x5 x6 x7 x8 x9 x10 x11 x12 x13 x14 x15 x16 x17 x18 x19)] [AObj.rows true 20 [(rC x0 x1 x2 x3 x4 x5 x6 x7 x8 x9 x10 x11 x12 x13 x14 x15 x16 x17 x18 x19)]] [AVal.agg (rC x0 x1 x2 x3 x4 x5 x6 x7 x8 x9 x10 x11 x12 x13 x14 x15 x16 x17 x18 x19)] [] (AVal.tuple [AVal.str s, AVal.int IntKind.i64 e]) []) :: (tr 3 ++ (((!b2) = false) :: ((Owed.use (owed Try.prog 0) 13 [] [AVal.str x19] [AObj.rows true 20 [(rC x0 x1 x2 x3 x4 x5 x6 x7 x8 x9 x10 x11 x12 x13 x14 x15 x16 x17 x18 x19)]] [AVal.str x19] [] (AVal.bool b2) []) :: (tr 3 ++ (((!b1) = false) :: ((Owed.use (owed Try.prog 0) 12 [] [AVal.agg (rQ x3 x4 x5 x6 x7 x8 x9 x10 x11)] [AObj.rows true 20 [(rC x0 x1 x2 x3 x4 x5 x6 x7 x8 x9 x10 x11 x12 x13 x14 x15 x16 x17 x18 x19)]] [AVal.agg (rQ x3 x4 x5 x6 x7 x8 x9 x10 x11)] [] (AVal.bool b1) []) :: (tr 3 ++ []))))))))))))) by kernel_rfl) (allP_of ⟨h1, ⟨h2, ⟨⟨h3, rfl, rfl, rfl⟩, (trC 3 ⟨⟨h4, rfl, rfl, rfl⟩, (trC 3 ⟨h5, ⟨⟨h6, rfl, rfl, rfl⟩, (trC 3 ⟨h7, ⟨⟨h8, rfl, rfl, rfl⟩, (trC 3 trivial)⟩⟩)⟩⟩)⟩)⟩⟩⟩)).move ([]) (by kernel_rfl) (by kernel_rfl) (by kernel_rfl)

theorem cputs_5 (x0 x1 x2 x3 : Int) (x4 x5 x6 x7 x8 x9 : ByteArray) (x10 x11 x12 x13 x14 x15 x16 : Int) (x17 : Bool) (x18 : Int) (x19 s : ByteArray) (e : Int) (b1 b2 : Bool)
    (h1 : FOk Try.prog 14 [] [] (AVal.bool true) [])
    (h2 : (e != 0) = true)
    (h3 : (e != e) = false)
    (h4 : (!ByteArray.toList s == ByteArray.toList s) = false)
    (h5 : FOk Try.prog 16 [AVal.agg (rC x0 x1 x2 x3 x4 x5 x6 x7 x8 x9 x10 x11 x12 x13 x14 x15 x16 x17 x18 x19)] [] (AVal.tuple [AVal.str s, AVal.int IntKind.i64 e]) [])
    (h6 : FOk Try.prog 15 [AVal.agg (rC x0 x1 x2 x3 x4 x5 x6 x7 x8 x9 x10 x11 x12 x13 x14 x15 x16 x17 x18 x19)] [] (AVal.tuple [AVal.str s, AVal.int IntKind.i64 e]) [])
    (h7 : (!b2) = false)
    (h8 : FOk Try.prog 13 [AVal.str x19] [] (AVal.bool b2) [])
    (h9 : (!b1) = false)
    (h10 : FOk Try.prog 12 [AVal.agg (rQ x3 x4 x5 x6 x7 x8 x9 x10 x11)] [] (AVal.bool b1) []) :
    FOk Try.prog 3 ([AVal.agg (rC x0 x1 x2 x3 x4 x5 x6 x7 x8 x9 x10 x11 x12 x13 x14 x15 x16 x17 x18 x19)]) ([]) (AVal.bool true) ([]) :=
  (evalF_ok followed Try.func3 (by kernel_rfl) (show evalF Try.prog Try.f3 ([AVal.agg (rC x0 x1 x2 x3 x4 x5 x6 x7 x8 x9 x10 x11 x12 x13 x14 x15 x16 x17 x18 x19)]) ([]) ([Dec.use [] [AVal.agg (rQ x3 x4 x5 x6 x7 x8 x9 x10 x11)] [] (AVal.bool b1) [], Dec.br false, Dec.use [] [AVal.str x19] [] (AVal.bool b2) [], Dec.br false, Dec.use [] [AVal.agg (rC x0 x1 x2 x3 x4 x5 x6 x7 x8 x9 x10 x11 x12 x13 x14 x15 x16 x17 x18 x19)] [] (AVal.tuple [AVal.str s, AVal.int IntKind.i64 e]) [], Dec.use [] [AVal.agg (rC x0 x1 x2 x3 x4 x5 x6 x7 x8 x9 x10 x11 x12 x13 x14 x15 x16 x17 x18 x19)] [] (AVal.tuple [AVal.str s, AVal.int IntKind.i64 e]) [], Dec.br false, Dec.br false, Dec.br true, Dec.use [] [] [] (AVal.bool true) []]) = .ok (FRes.mk (AVal.bool true) ([AObj.rows true 20 [(rC x0 x1 x2 x3 x4 x5 x6 x7 x8 x9 x10 x11 x12 x13 x14 x15 x16 x17 x18 x19)]]) ((Owed.use (owed Try.prog 0) 14 [] [] [AObj.rows true 20 [(rC x0 x1 x2 x3 x4 x5 x6 x7 x8 x9 x10 x11 x12 x13 x14 x15 x16 x17 x18 x19)]] [] [] (AVal.bool true) []) :: (((e != 0) = true) :: (((e != e) = false) :: (((!ByteArray.toList s == ByteArray.toList s) = false) :: ((Owed.use (owed Try.prog 0) 16 [] [AVal.agg (rC x0 x1 x2 x3 x4 x5 x6 x7 x8 x9 x10 x11 x12 x13 x14 x15 x16 x17 x18 x19)] [AObj.rows true 20 [(rC x0 x1 x2 x3 x4 x5 x6 x7 x8 x9 x10 x11 x12 x13 x14 x15 x16 x17 x18 x19)]] [AVal.agg (rC x0 x1 x2 x3 x4 x5 x6 x7 x8 x9 x10 x11 x12 x13 x14 x15 x16 x17 x18 x19)] [] (AVal.tuple [AVal.str s, AVal.int IntKind.i64 e]) []) :: (tr 3 ++ ((Owed.use (owed Try.prog 0) 15 [] [AVal.agg (rC x0 x1 x2 x3 x4 x5 x6 x7 x8 x9 x10 x11 x12 x13 x14 x15 x16 x17 x18 x19)] [AObj.rows true 20 [(rC x0 x1 x2 x3 x4 x5 x6 x7 x8 x9 x10 x11 x12 x13 x14 x15 x16 x17 x18 x19)]] [AVal.agg (rC x0 x1 x2 x3 x4 x5 x6 x7 x8 x9 x10 x11 x12 x13 x14 x15 x16 x17 x18 x19)] [] (AVal.tuple [AVal.str s, AVal.int IntKind.i64 e]) []) :: (tr 3 ++ (((!b2) = false) :: ((Owed.use (owed Try.prog 0) 13 [] [AVal.str x19] [AObj.rows true 20 [(rC x0 x1 x2 x3 x4 x5 x6 x7 x8 x9 x10 x11 x12 x13 x14 x15 x16 x17 x18 x19)]] [AVal.str x19] [] (AVal.bool b2) []) :: (tr 3 ++ (((!b1) = false) :: ((Owed.use (owed Try.prog 0) 12 [] [AVal.agg (rQ x3 x4 x5 x6 x7 x8 x9 x10 x11)] [AObj.rows true 20 [(rC x0 x1 x2 x3 x4 x5 x6 x7 x8 x9 x10 x11 x12 x13 x14 x15 x16 x17 x18 x19)]] [AVal.agg (rQ x3 x4 x5 x6 x7 x8 x9 x10 x11)] [] (AVal.bool b1) []) :: (tr 3 ++ []))))))))))))))) by kernel_rfl) (allP_of ⟨⟨h1, rfl, rfl, rfl⟩, ⟨h2, ⟨h3, ⟨h4, ⟨⟨h5, rfl, rfl, rfl⟩, (trC 3 ⟨⟨h6, rfl, rfl, rfl⟩, (trC 3 ⟨h7, ⟨⟨h8, rfl, rfl, rfl⟩, (trC 3 ⟨h9, ⟨⟨h10, rfl, rfl, rfl⟩, (trC 3 trivial)⟩⟩)⟩⟩)⟩)⟩⟩⟩⟩⟩)).move ([]) (by kernel_rfl) (by kernel_rfl) (by kernel_rfl)

theorem cputs_6 (x0 x1 x2 x3 : Int) (x4 x5 x6 x7 x8 x9 : ByteArray) (x10 x11 x12 x13 x14 x15 x16 : Int) (x17 : Bool) (x18 : Int) (x19 s : ByteArray) (e : Int) (b1 b2 : Bool)
    (h1 : FOk Try.prog 14 [] [] (AVal.bool true) [])
    (h2 : (fun r => x0 == x0 && r) ((fun r => (fun r => x1 == x1 && r) ((fun r => x2 == x2 && r) true) && r) ((fun r => (fun r => x3 == x3 && r) ((fun r => ByteArray.toList x4 == ByteArray.toList x4 && r) ((fun r => ByteArray.toList x5 == ByteArray.toList x5 && r) ((fun r => ByteArray.toList x6 == ByteArray.toList x6 && r) ((fun r => ByteArray.toList x7 == ByteArray.toList x7 && r) ((fun r => ByteArray.toList x8 == ByteArray.toList x8 && r) ((fun r => ByteArray.toList x9 == ByteArray.toList x9 && r) ((fun r => x10 == x10 && r) ((fun r => x11 == x11 && r) true)))))))) && r) ((fun r => x12 == x12 && r) ((fun r => x13 == x13 && r) ((fun r => x14 == x14 && r) ((fun r => x15 == x15 && r) ((fun r => x16 == x16 && r) ((fun r => x17 == x17 && r) ((fun r => x18 == x18 && r) ((fun r => ByteArray.toList x19 == ByteArray.toList x19 && r) true)))))))))) = true)
    (h3 : FOk Try.prog 17 [AVal.str s] [] (AVal.tuple [AVal.agg (rC x0 x1 x2 x3 x4 x5 x6 x7 x8 x9 x10 x11 x12 x13 x14 x15 x16 x17 x18 x19), AVal.int IntKind.i64 0]) [])
    (h4 : (e != 0) = false)
    (h5 : (e != e) = false)
    (h6 : (!ByteArray.toList s == ByteArray.toList s) = false)
    (h7 : FOk Try.prog 16 [AVal.agg (rC x0 x1 x2 x3 x4 x5 x6 x7 x8 x9 x10 x11 x12 x13 x14 x15 x16 x17 x18 x19)] [] (AVal.tuple [AVal.str s, AVal.int IntKind.i64 e]) [])
    (h8 : FOk Try.prog 15 [AVal.agg (rC x0 x1 x2 x3 x4 x5 x6 x7 x8 x9 x10 x11 x12 x13 x14 x15 x16 x17 x18 x19)] [] (AVal.tuple [AVal.str s, AVal.int IntKind.i64 e]) [])
    (h9 : (!b2) = false)
    (h10 : FOk Try.prog 13 [AVal.str x19] [] (AVal.bool b2) [])
    (h11 : (!b1) = false)
    (h12 : FOk Try.prog 12 [AVal.agg (rQ x3 x4 x5 x6 x7 x8 x9 x10 x11)] [] (AVal.bool b1) []) :
    FOk Try.prog 3 ([AVal.agg (rC x0 x1 x2 x3 x4 x5 x6 x7 x8 x9 x10 x11 x12 x13 x14 x15 x16 x17 x18 x19)]) ([]) (AVal.bool true) ([]) :=
  (evalF_ok followed Try.func3 (by kernel_rfl) (show evalF Try.prog Try.f3 ([AVal.agg (rC x0 x1 x2 x3 x4 x5 x6 x7 x8 x9 x10 x11 x12 x13 x14 x15 x16 x17 x18 x19)]) ([]) ([Dec.use [] [AVal.agg (rQ x3 x4 x5 x6 x7 x8 x9 x10 x11)] [] (AVal.bool b1) [], Dec.br false, Dec.use [] [AVal.str x19] [] (AVal.bool b2) [], Dec.br false, Dec.use [] [AVal.agg (rC x0 x1 x2 x3 x4 x5 x6 x7 x8 x9 x10 x11 x12 x13 x14 x15 x16 x17 x18 x19)] [] (AVal.tuple [AVal.str s, AVal.int IntKind.i64 e]) [], Dec.use [] [AVal.agg (rC x0 x1 x2 x3 x4 x5 x6 x7 x8 x9 x10 x11 x12 x13 x14 x15 x16 x17 x18 x19)] [] (AVal.tuple [AVal.str s, AVal.int IntKind.i64 e]) [], Dec.br false, Dec.br false, Dec.br false, Dec.use [] [AVal.str s] [] (AVal.tuple [AVal.agg (rC x0 x1 x2 x3 x4 x5 x6 x7 x8 x9 x10 x11 x12 x13 x14 x15 x16 x17 x18 x19), AVal.int IntKind.i64 0]) [], Dec.br true, Dec.br true, Dec.use [] [] [] (AVal.bool true) []]) = .ok (FRes.mk (AVal.bool true) ([AObj.rows true 20 [(rC x0 x1 x2 x3 x4 x5 x6 x7 x8 x9 x10 x11 x12 x13 x14 x15 x16 x17 x18 x19)], AObj.rows true 20 [(rC x0 x1 x2 x3 x4 x5 x6 x7 x8 x9 x10 x11 x12 x13 x14 x15 x16 x17 x18 x19)]]) ((Owed.use (owed Try.prog 0) 14 [] [] [AObj.rows true 20 [(rC x0 x1 x2 x3 x4 x5 x6 x7 x8 x9 x10 x11 x12 x13 x14 x15 x16 x17 x18 x19)], AObj.rows true 20 [(rC x0 x1 x2 x3 x4 x5 x6 x7 x8 x9 x10 x11 x12 x13 x14 x15 x16 x17 x18 x19)]] [] [] (AVal.bool true) []) :: (tr 1 ++ (((fun r => x0 == x0 && r) ((fun r => (fun r => x1 == x1 && r) ((fun r => x2 == x2 && r) true) && r) ((fun r => (fun r => x3 == x3 && r) ((fun r => ByteArray.toList x4 == ByteArray.toList x4 && r) ((fun r => ByteArray.toList x5 == ByteArray.toList x5 && r) ((fun r => ByteArray.toList x6 == ByteArray.toList x6 && r) ((fun r => ByteArray.toList x7 == ByteArray.toList x7 && r) ((fun r => ByteArray.toList x8 == ByteArray.toList x8 && r) ((fun r => ByteArray.toList x9 == ByteArray.toList x9 && r) ((fun r => x10 == x10 && r) ((fun r => x11 == x11 && r) true)))))))) && r) ((fun r => x12 == x12 && r) ((fun r => x13 == x13 && r) ((fun r => x14 == x14 && r) ((fun r => x15 == x15 && r) ((fun r => x16 == x16 && r) ((fun r => x17 == x17 && r) ((fun r => x18 == x18 && r) ((fun r => ByteArray.toList x19 == ByteArray.toList x19 && r) true)))))))))) = true) :: (tr 8 ++ ((Owed.use (owed Try.prog 0) 17 [] [AVal.str s] [AObj.rows true 20 [(rC x0 x1 x2 x3 x4 x5 x6 x7 x8 x9 x10 x11 x12 x13 x14 x15 x16 x17 x18 x19)]] [AVal.str s] [] (AVal.tuple [AVal.agg (rC x0 x1 x2 x3 x4 x5 x6 x7 x8 x9 x10 x11 x12 x13 x14 x15 x16 x17 x18 x19), AVal.int IntKind.i64 0]) []) :: (((e != 0) = false) :: (((e != e) = false) :: (((!ByteArray.toList s == ByteArray.toList s) = false) :: ((Owed.use (owed Try.prog 0) 16 [] [AVal.agg (rC x0 x1 x2 x3 x4 x5 x6 x7 x8 x9 x10 x11 x12 x13 x14 x15 x16 x17 x18 x19)] [AObj.rows true 20 [(rC x0 x1 x2 x3 x4 x5 x6 x7 x8 x9 x10 x11 x12 x13 x14 x15 x16 x17 x18 x19)]] [AVal.agg (rC x0 x1 x2 x3 x4 x5 x6 x7 x8 x9 x10 x11 x12 x13 x14 x15 x16 x17 x18 x19)] [] (AVal.tuple [AVal.str s, AVal.int IntKind.i64 e]) []) :: (tr 3 ++ ((Owed.use (owed Try.prog 0) 15 [] [AVal.agg (rC x0 x1 x2 x3 x4 x5 x6 x7 x8 x9 x10 x11 x12 x13 x14 x15 x16 x17 x18 x19)] [AObj.rows true 20 [(rC x0 x1 x2 x3 x4 x5 x6 x7 x8 x9 x10 x11 x12 x13 x14 x15 x16 x17 x18 x19)]] [AVal.agg (rC x0 x1 x2 x3 x4 x5 x6 x7 x8 x9 x10 x11 x12 x13 x14 x15 x16 x17 x18 x19)] [] (AVal.tuple [AVal.str s, AVal.int IntKind.i64 e]) []) :: (tr 3 ++ (((!b2) = false) :: ((Owed.use (owed Try.prog 0) 13 [] [AVal.str x19] [AObj.rows true 20 [(rC x0 x1 x2 x3 x4 x5 x6 x7 x8 x9 x10 x11 x12 x13 x14 x15 x16 x17 x18 x19)]] [AVal.str x19] [] (AVal.bool b2) []) :: (tr 3 ++ (((!b1) = false) :: ((Owed.use (owed Try.prog 0) 12 [] [AVal.agg (rQ x3 x4 x5 x6 x7 x8 x9 x10 x11)] [AObj.rows true 20 [(rC x0 x1 x2 x3 x4 x5 x6 x7 x8 x9 x10 x11 x12 x13 x14 x15 x16 x17 x18 x19)]] [AVal.agg (rQ x3 x4 x5 x6 x7 x8 x9 x10 x11)] [] (AVal.bool b1) []) :: (tr 3 ++ []))))))))))))))))))) by kernel_rfl) (allP_of ⟨⟨h1, rfl, rfl, rfl⟩, (trC 1 ⟨h2, (trC 8 ⟨⟨h3, rfl, rfl, rfl⟩, ⟨h4, ⟨h5, ⟨h6, ⟨⟨h7, rfl, rfl, rfl⟩, (trC 3 ⟨⟨h8, rfl, rfl, rfl⟩, (trC 3 ⟨h9, ⟨⟨h10, rfl, rfl, rfl⟩, (trC 3 ⟨h11, ⟨⟨h12, rfl, rfl, rfl⟩, (trC 3 trivial)⟩⟩)⟩⟩)⟩)⟩⟩⟩⟩⟩)⟩)⟩)).move ([]) (by kernel_rfl) (by kernel_rfl) (by kernel_rfl)

theorem cputs_7 (x0 x1 x2 x3 : Int) (x4 x5 x6 x7 x8 x9 : ByteArray) (x10 x11 x12 x13 x14 x15 x16 : Int) (x17 : Bool) (x18 : Int) (x19 s : ByteArray) (e : Int) (b1 b2 : Bool)
    (h1 : (fun r => x0 == x0 && r) ((fun r => (fun r => x1 == x1 && r) ((fun r => x2 == x2 && r) true) && r) ((fun r => (fun r => x3 == x3 && r) ((fun r => ByteArray.toList x4 == ByteArray.toList x4 && r) ((fun r => ByteArray.toList x5 == ByteArray.toList x5 && r) ((fun r => ByteArray.toList x6 == ByteArray.toList x6 && r) ((fun r => ByteArray.toList x7 == ByteArray.toList x7 && r) ((fun r => ByteArray.toList x8 == ByteArray.toList x8 && r) ((fun r => ByteArray.toList x9 == ByteArray.toList x9 && r) ((fun r => x10 == x10 && r) ((fun r => x11 == x11 && r) true)))))))) && r) ((fun r => x12 == x12 && r) ((fun r => x13 == x13 && r) ((fun r => x14 == x14 && r) ((fun r => x15 == x15 && r) ((fun r => x16 == x16 && r) ((fun r => x17 == x17 && r) ((fun r => x18 == x18 && r) ((fun r => ByteArray.toList x19 == ByteArray.toList x19 && r) true)))))))))) = false)
    (h2 : FOk Try.prog 17 [AVal.str s] [] (AVal.tuple [AVal.agg (rC x0 x1 x2 x3 x4 x5 x6 x7 x8 x9 x10 x11 x12 x13 x14 x15 x16 x17 x18 x19), AVal.int IntKind.i64 0]) [])
    (h3 : (e != 0) = false)
    (h4 : (e != e) = false)
    (h5 : (!ByteArray.toList s == ByteArray.toList s) = false)
    (h6 : FOk Try.prog 16 [AVal.agg (rC x0 x1 x2 x3 x4 x5 x6 x7 x8 x9 x10 x11 x12 x13 x14 x15 x16 x17 x18 x19)] [] (AVal.tuple [AVal.str s, AVal.int IntKind.i64 e]) [])
    (h7 : FOk Try.prog 15 [AVal.agg (rC x0 x1 x2 x3 x4 x5 x6 x7 x8 x9 x10 x11 x12 x13 x14 x15 x16 x17 x18 x19)] [] (AVal.tuple [AVal.str s, AVal.int IntKind.i64 e]) [])
    (h8 : (!b2) = false)
    (h9 : FOk Try.prog 13 [AVal.str x19] [] (AVal.bool b2) [])
    (h10 : (!b1) = false)
    (h11 : FOk Try.prog 12 [AVal.agg (rQ x3 x4 x5 x6 x7 x8 x9 x10 x11)] [] (AVal.bool b1) []) :
    FOk Try.prog 3 ([AVal.agg (rC x0 x1 x2 x3 x4 x5 x6 x7 x8 x9 x10 x11 x12 x13 x14 x15 x16 x17 x18 x19)]) ([]) (AVal.bool false) ([]) :=
  (evalF_ok followed Try.func3 (by kernel_rfl) (show evalF Try.prog Try.f3 ([AVal.agg (rC x0 x1 x2 x3 x4 x5 x6 x7 x8 x9 x10 x11 x12 x13 x14 x15 x16 x17 x18 x19)]) ([]) ([Dec.use [] [AVal.agg (rQ x3 x4 x5 x6 x7 x8 x9 x10 x11)] [] (AVal.bool b1) [], Dec.br false, Dec.use [] [AVal.str x19] [] (AVal.bool b2) [], Dec.br false, Dec.use [] [AVal.agg (rC x0 x1 x2 x3 x4 x5 x6 x7 x8 x9 x10 x11 x12 x13 x14 x15 x16 x17 x18 x19)] [] (AVal.tuple [AVal.str s, AVal.int IntKind.i64 e]) [], Dec.use [] [AVal.agg (rC x0 x1 x2 x3 x4 x5 x6 x7 x8 x9 x10 x11 x12 x13 x14 x15 x16 x17 x18 x19)] [] (AVal.tuple [AVal.str s, AVal.int IntKind.i64 e]) [], Dec.br false, Dec.br false, Dec.br false, Dec.use [] [AVal.str s] [] (AVal.tuple [AVal.agg (rC x0 x1 x2 x3 x4 x5 x6 x7 x8 x9 x10 x11 x12 x13 x14 x15 x16 x17 x18 x19), AVal.int IntKind.i64 0]) [], Dec.br false]) = .ok (FRes.mk (AVal.bool false) ([AObj.rows true 20 [(rC x0 x1 x2 x3 x4 x5 x6 x7 x8 x9 x10 x11 x12 x13 x14 x15 x16 x17 x18 x19)], AObj.rows true 20 [(rC x0 x1 x2 x3 x4 x5 x6 x7 x8 x9 x10 x11 x12 x13 x14 x15 x16 x17 x18 x19)]]) (((fun r => x0 == x0 && r) ((fun r => (fun r => x1 == x1 && r) ((fun r => x2 == x2 && r) true) && r) ((fun r => (fun r => x3 == x3 && r) ((fun r => ByteArray.toList x4 == ByteArray.toList x4 && r) ((fun r => ByteArray.toList x5 == ByteArray.toList x5 && r) ((fun r => ByteArray.toList x6 == ByteArray.toList x6 && r) ((fun r => ByteArray.toList x7 == ByteArray.toList x7 && r) ((fun r => ByteArray.toList x8 == ByteArray.toList x8 && r) ((fun r => ByteArray.toList x9 == ByteArray.toList x9 && r) ((fun r => x10 == x10 && r) ((fun r => x11 == x11 && r) true)))))))) && r) ((fun r => x12 == x12 && r) ((fun r => x13 == x13 && r) ((fun r => x14 == x14 && r) ((fun r => x15 == x15 && r) ((fun r => x16 == x16 && r) ((fun r => x17 == x17 && r) ((fun r => x18 == x18 && r) ((fun r => ByteArray.toList x19 == ByteArray.toList x19 && r) true)))))))))) = false) :: (tr 8 ++ ((Owed.use (owed Try.prog 0) 17 [] [AVal.str s] [AObj.rows true 20 [(rC x0 x1 x2 x3 x4 x5 x6 x7 x8 x9 x10 x11 x12 x13 x14 x15 x16 x17 x18 x19)]] [AVal.str s] [] (AVal.tuple [AVal.agg (rC x0 x1 x2 x3 x4 x5 x6 x7 x8 x9 x10 x11 x12 x13 x14 x15 x16 x17 x18 x19), AVal.int IntKind.i64 0]) []) :: (((e != 0) = false) :: (((e != e) = false) :: (((!ByteArray.toList s == ByteArray.toList s) = false) :: ((Owed.use (owed Try.prog 0) 16 [] [AVal.agg (rC x0 x1 x2 x3 x4 x5 x6 x7 x8 x9 x10 x11 x12 x13 x14 x15 x16 x17 x18 x19)] [AObj.rows true 20 [(rC x0 x1 x2 x3 x4 x5 x6 x7 x8 x9 x10 x11 x12 x13 x14 x15 x16 x17 x18 x19)]] [AVal.agg (rC x0 x1 x2 x3 x4 x5 x6 x7 x8 x9 x10 x11 x12 x13 x14 x15 x16 x17 x18 x19)] [] (AVal.tuple [AVal.str s, AVal.int IntKind.i64 e]) []) :: (tr 3 ++ ((Owed.use (owed Try.prog 0) 15 [] [AVal.agg (rC x0 x1 x2 x3 x4 x5 x6 x7 x8 x9 x10 x11 x12 x13 x14 x15 x16 x17 x18 x19)] [AObj.rows true 20 [(rC x0 x1 x2 x3 x4 x5 x6 x7 x8 x9 x10 x11 x12 x13 x14 x15 x16 x17 x18 x19)]] [AVal.agg (rC x0 x1 x2 x3 x4 x5 x6 x7 x8 x9 x10 x11 x12 x13 x14 x15 x16 x17 x18 x19)] [] (AVal.tuple [AVal.str s, AVal.int IntKind.i64 e]) []) :: (tr 3 ++ (((!b2) = false) :: ((Owed.use (owed Try.prog 0) 13 [] [AVal.str x19] [AObj.rows true 20 [(rC x0 x1 x2 x3 x4 x5 x6 x7 x8 x9 x10 x11 x12 x13 x14 x15 x16 x17 x18 x19)]] [AVal.str x19] [] (AVal.bool b2) []) :: (tr 3 ++ (((!b1) = false) :: ((Owed.use (owed Try.prog 0) 12 [] [AVal.agg (rQ x3 x4 x5 x6 x7 x8 x9 x10 x11)] [AObj.rows true 20 [(rC x0 x1 x2 x3 x4 x5 x6 x7 x8 x9 x10 x11 x12 x13 x14 x15 x16 x17 x18 x19)]] [AVal.agg (rQ x3 x4 x5 x6 x7 x8 x9 x10 x11)] [] (AVal.bool b1) []) :: (tr 3 ++ []))))))))))))))))) by kernel_rfl) (allP_of ⟨h1, (trC 8 ⟨⟨h2, rfl, rfl, rfl⟩, ⟨h3, ⟨h4, ⟨h5, ⟨⟨h6, rfl, rfl, rfl⟩, (trC 3 ⟨⟨h7, rfl, rfl, rfl⟩, (trC 3 ⟨h8, ⟨⟨h9, rfl, rfl, rfl⟩, (trC 3 ⟨h10, ⟨⟨h11, rfl, rfl, rfl⟩, (trC 3 trivial)⟩⟩)⟩⟩)⟩)⟩⟩⟩⟩⟩)⟩)).move ([]) (by kernel_rfl) (by kernel_rfl) (by kernel_rfl)

def cputs_T (x0 x1 x2 x3 : Int) (x4 x5 x6 x7 x8 x9 : ByteArray) (x10 x11 x12 x13 x14 x15 x16 : Int) (x17 : Bool) (x18 : Int) (x19 s : ByteArray) (e : Int) (b1 b2 : Bool) (Q : AVal → AState → Prop) : Prop := (FOk Try.prog 12 [AVal.agg (rQ x3 x4 x5 x6 x7 x8 x9 x10 x11)] [] (AVal.bool b1) []) ∧ (((!b1) = true) → (FOk Try.prog 14 [] [] (AVal.bool true) []) ∧ Q (AVal.bool true) ([])) ∧ (((!b1) = false) → (FOk Try.prog 13 [AVal.str x19] [] (AVal.bool b2) []) ∧ (((!b2) = true) → (FOk Try.prog 14 [] [] (AVal.bool true) []) ∧ Q (AVal.bool true) ([])) ∧ (((!b2) = false) → (FOk Try.prog 15 [AVal.agg (rC x0 x1 x2 x3 x4 x5 x6 x7 x8 x9 x10 x11 x12 x13 x14 x15 x16 x17 x18 x19)] [] (AVal.tuple [AVal.str s, AVal.int IntKind.i64 e]) []) ∧ (FOk Try.prog 16 [AVal.agg (rC x0 x1 x2 x3 x4 x5 x6 x7 x8 x9 x10 x11 x12 x13 x14 x15 x16 x17 x18 x19)] [] (AVal.tuple [AVal.str s, AVal.int IntKind.i64 e]) []) ∧ (((!ByteArray.toList s == ByteArray.toList s) = true) → Q (AVal.bool false) ([])) ∧ (((!ByteArray.toList s == ByteArray.toList s) = false) → (((e != e) = true) → Q (AVal.bool false) ([])) ∧ (((e != e) = false) → (((e != 0) = true) → (FOk Try.prog 14 [] [] (AVal.bool true) []) ∧ Q (AVal.bool true) ([])) ∧ (((e != 0) = false) → (FOk Try.prog 17 [AVal.str s] [] (AVal.tuple [AVal.agg (rC x0 x1 x2 x3 x4 x5 x6 x7 x8 x9 x10 x11 x12 x13 x14 x15 x16 x17 x18 x19), AVal.int IntKind.i64 0]) []) ∧ (((fun r => x0 == x0 && r) ((fun r => (fun r => x1 == x1 && r) ((fun r => x2 == x2 && r) true) && r) ((fun r => (fun r => x3 == x3 && r) ((fun r => ByteArray.toList x4 == ByteArray.toList x4 && r) ((fun r => ByteArray.toList x5 == ByteArray.toList x5 && r) ((fun r => ByteArray.toList x6 == ByteArray.toList x6 && r) ((fun r => ByteArray.toList x7 == ByteArray.toList x7 && r) ((fun r => ByteArray.toList x8 == ByteArray.toList x8 && r) ((fun r => ByteArray.toList x9 == ByteArray.toList x9 && r) ((fun r => x10 == x10 && r) ((fun r => x11 == x11 && r) true)))))))) && r) ((fun r => x12 == x12 && r) ((fun r => x13 == x13 && r) ((fun r => x14 == x14 && r) ((fun r => x15 == x15 && r) ((fun r => x16 == x16 && r) ((fun r => x17 == x17 && r) ((fun r => x18 == x18 && r) ((fun r => ByteArray.toList x19 == ByteArray.toList x19 && r) true)))))))))) = true) → (FOk Try.prog 14 [] [] (AVal.bool true) []) ∧ Q (AVal.bool true) ([])) ∧ (((fun r => x0 == x0 && r) ((fun r => (fun r => x1 == x1 && r) ((fun r => x2 == x2 && r) true) && r) ((fun r => (fun r => x3 == x3 && r) ((fun r => ByteArray.toList x4 == ByteArray.toList x4 && r) ((fun r => ByteArray.toList x5 == ByteArray.toList x5 && r) ((fun r => ByteArray.toList x6 == ByteArray.toList x6 && r) ((fun r => ByteArray.toList x7 == ByteArray.toList x7 && r) ((fun r => ByteArray.toList x8 == ByteArray.toList x8 && r) ((fun r => ByteArray.toList x9 == ByteArray.toList x9 && r) ((fun r => x10 == x10 && r) ((fun r => x11 == x11 && r) true)))))))) && r) ((fun r => x12 == x12 && r) ((fun r => x13 == x13 && r) ((fun r => x14 == x14 && r) ((fun r => x15 == x15 && r) ((fun r => x16 == x16 && r) ((fun r => x17 == x17 && r) ((fun r => x18 == x18 && r) ((fun r => ByteArray.toList x19 == ByteArray.toList x19 && r) true)))))))))) = false) → Q (AVal.bool false) ([])))))))
theorem cputs_wp (x0 x1 x2 x3 : Int) (x4 x5 x6 x7 x8 x9 : ByteArray) (x10 x11 x12 x13 x14 x15 x16 : Int) (x17 : Bool) (x18 : Int) (x19 s : ByteArray) (e : Int) (b1 b2 : Bool) {Q : AVal → AState → Prop} (h : cputs_T x0 x1 x2 x3 x4 x5 x6 x7 x8 x9 x10 x11 x12 x13 x14 x15 x16 x17 x18 x19 s e b1 b2 Q) : ∃ r σ', FOk Try.prog 3 ([AVal.agg (rC x0 x1 x2 x3 x4 x5 x6 x7 x8 x9 x10 x11 x12 x13 x14 x15 x16 x17 x18 x19)]) ([]) r σ' ∧ Q r σ' :=
  brE (fun (c0 : (!b1) = true) => ⟨_, _, cputs_1 x0 x1 x2 x3 x4 x5 x6 x7 x8 x9 x10 x11 x12 x13 x14 x15 x16 x17 x18 x19 s e b1 b2 ((h.2.1 c0).1) (c0) (h.1), (h.2.1 c0).2⟩) (fun (c0 : (!b1) = false) => brE (fun (c1 : (!b2) = true) => ⟨_, _, cputs_2 x0 x1 x2 x3 x4 x5 x6 x7 x8 x9 x10 x11 x12 x13 x14 x15 x16 x17 x18 x19 s e b1 b2 (((h.2.2 c0).2.1 c1).1) (c1) ((h.2.2 c0).1) (c0) (h.1), ((h.2.2 c0).2.1 c1).2⟩) (fun (c1 : (!b2) = false) => brE (fun (c2 : (!ByteArray.toList s == ByteArray.toList s) = true) => ⟨_, _, cputs_3 x0 x1 x2 x3 x4 x5 x6 x7 x8 x9 x10 x11 x12 x13 x14 x15 x16 x17 x18 x19 s e b1 b2 (c2) (((h.2.2 c0).2.2 c1).2.1) (((h.2.2 c0).2.2 c1).1) (c1) ((h.2.2 c0).1) (c0) (h.1), (((h.2.2 c0).2.2 c1).2.2.1 c2)⟩) (fun (c2 : (!ByteArray.toList s == ByteArray.toList s) = false) => brE (fun (c3 : (e != e) = true) => ⟨_, _, cputs_4 x0 x1 x2 x3 x4 x5 x6 x7 x8 x9 x10 x11 x12 x13 x14 x15 x16 x17 x18 x19 s e b1 b2 (c3) (c2) (((h.2.2 c0).2.2 c1).2.1) (((h.2.2 c0).2.2 c1).1) (c1) ((h.2.2 c0).1) (c0) (h.1), ((((h.2.2 c0).2.2 c1).2.2.2 c2).1 c3)⟩) (fun (c3 : (e != e) = false) => brE (fun (c4 : (e != 0) = true) => ⟨_, _, cputs_5 x0 x1 x2 x3 x4 x5 x6 x7 x8 x9 x10 x11 x12 x13 x14 x15 x16 x17 x18 x19 s e b1 b2 ((((((h.2.2 c0).2.2 c1).2.2.2 c2).2 c3).1 c4).1) (c4) (c3) (c2) (((h.2.2 c0).2.2 c1).2.1) (((h.2.2 c0).2.2 c1).1) (c1) ((h.2.2 c0).1) (c0) (h.1), (((((h.2.2 c0).2.2 c1).2.2.2 c2).2 c3).1 c4).2⟩) (fun (c4 : (e != 0) = false) => brE (fun (c5 : (fun r => x0 == x0 && r) ((fun r => (fun r => x1 == x1 && r) ((fun r => x2 == x2 && r) true) && r) ((fun r => (fun r => x3 == x3 && r) ((fun r => ByteArray.toList x4 == ByteArray.toList x4 && r) ((fun r => ByteArray.toList x5 == ByteArray.toList x5 && r) ((fun r => ByteArray.toList x6 == ByteArray.toList x6 && r) ((fun r => ByteArray.toList x7 == ByteArray.toList x7 && r) ((fun r => ByteArray.toList x8 == ByteArray.toList x8 && r) ((fun r => ByteArray.toList x9 == ByteArray.toList x9 && r) ((fun r => x10 == x10 && r) ((fun r => x11 == x11 && r) true)))))))) && r) ((fun r => x12 == x12 && r) ((fun r => x13 == x13 && r) ((fun r => x14 == x14 && r) ((fun r => x15 == x15 && r) ((fun r => x16 == x16 && r) ((fun r => x17 == x17 && r) ((fun r => x18 == x18 && r) ((fun r => ByteArray.toList x19 == ByteArray.toList x19 && r) true)))))))))) = true) => ⟨_, _, cputs_6 x0 x1 x2 x3 x4 x5 x6 x7 x8 x9 x10 x11 x12 x13 x14 x15 x16 x17 x18 x19 s e b1 b2 (((((((h.2.2 c0).2.2 c1).2.2.2 c2).2 c3).2 c4).2.1 c5).1) (c5) ((((((h.2.2 c0).2.2 c1).2.2.2 c2).2 c3).2 c4).1) (c4) (c3) (c2) (((h.2.2 c0).2.2 c1).2.1) (((h.2.2 c0).2.2 c1).1) (c1) ((h.2.2 c0).1) (c0) (h.1), ((((((h.2.2 c0).2.2 c1).2.2.2 c2).2 c3).2 c4).2.1 c5).2⟩) (fun (c5 : (fun r => x0 == x0 && r) ((fun r => (fun r => x1 == x1 && r) ((fun r => x2 == x2 && r) true) && r) ((fun r => (fun r => x3 == x3 && r) ((fun r => ByteArray.toList x4 == ByteArray.toList x4 && r) ((fun r => ByteArray.toList x5 == ByteArray.toList x5 && r) ((fun r => ByteArray.toList x6 == ByteArray.toList x6 && r) ((fun r => ByteArray.toList x7 == ByteArray.toList x7 && r) ((fun r => ByteArray.toList x8 == ByteArray.toList x8 && r) ((fun r => ByteArray.toList x9 == ByteArray.toList x9 && r) ((fun r => x10 == x10 && r) ((fun r => x11 == x11 && r) true)))))))) && r) ((fun r => x12 == x12 && r) ((fun r => x13 == x13 && r) ((fun r => x14 == x14 && r) ((fun r => x15 == x15 && r) ((fun r => x16 == x16 && r) ((fun r => x17 == x17 && r) ((fun r => x18 == x18 && r) ((fun r => ByteArray.toList x19 == ByteArray.toList x19 && r) true)))))))))) = false) => ⟨_, _, cputs_7 x0 x1 x2 x3 x4 x5 x6 x7 x8 x9 x10 x11 x12 x13 x14 x15 x16 x17 x18 x19 s e b1 b2 (c5) ((((((h.2.2 c0).2.2 c1).2.2.2 c2).2 c3).2 c4).1) (c4) (c3) (c2) (((h.2.2 c0).2.2 c1).2.1) (((h.2.2 c0).2.2 c1).1) (c1) ((h.2.2 c0).1) (c0) (h.1), ((((((h.2.2 c0).2.2 c1).2.2.2 c2).2 c3).2 c4).2.2 c5)⟩))))))


end Go.L12
end

section
set_option linter.unusedVariables false
set_option linter.unusedSimpArgs false
set_option maxRecDepth 100000
namespace Go.L12
open Go Go.Abs Go.Proofs
theorem put_any (c0 c1 c2 c3 : Int) (c4 c5 c6 c7 c8 c9 : ByteArray) (c10 c11 c12 c13 c14 c15 c16 : Int) (c17 : Bool) (c18 : Int) (c19 : ByteArray) (hb : bdC c0 c1 c2 c3 c10 c11 c12 c13 c14 c15 c16 c18) : ∃ (s : ByteArray) (e : Int), FOk Try.prog 15 [.agg (clC0 c0 c1 c2 c3 c4 c5 c6 c7 c8 c9 c10 c11 c12 c13 c14 c15 c16 c17 c18 c19)] [] (.tuple [.str s, .int .i64 e]) [] ∧ FOk Try.prog 16 [.agg (clC0 c0 c1 c2 c3 c4 c5 c6 c7 c8 c9 c10 c11 c12 c13 c14 c15 c16 c17 c18 c19)] [] (.tuple [.str s, .int .i64 e]) [] ∧ ((e = 0 ∧ Is 67 TC s (vsC c0 c1 c2 c3 c4 c5 c6 c7 c8 c9 c10 c11 c12 c13 c14 c15 c16 c17 c18 c19)) ∨ e = 1) := by
  cases h : putAll TC (vsC c0 c1 c2 c3 c4 c5 c6 c7 c8 c9 c10 c11 c12 c13 c14 c15 c16 c17 c18 c19) with
  | none => exact ⟨_, _, putC_no c0 c1 c2 c3 c4 c5 c6 c7 c8 c9 c10 c11 c12 c13 c14 c15 c16 c17 c18 c19 hb h, rputC_no c0 c1 c2 c3 c4 c5 c6 c7 c8 c9 c10 c11 c12 c13 c14 c15 c16 c17 c18 c19 h, .inr rfl⟩
  | some b => exact ⟨_, _, putC_ok c0 c1 c2 c3 c4 c5 c6 c7 c8 c9 c10 c11 c12 c13 c14 c15 c16 c17 c18 c19 hb b h, rputC_ok c0 c1 c2 c3 c4 c5 c6 c7 c8 c9 c10 c11 c12 c13 c14 c15 c16 c17 c18 c19 b h, .inl ⟨rfl, Is.put (allFC c0 c1 c2 c3 c4 c5 c6 c7 c8 c9 c10 c11 c12 c13 c14 c15 c16 c17 c18 c19) h⟩⟩
end Go.L12
end

section
set_option linter.unusedVariables false
set_option linter.unusedSimpArgs false
set_option maxRecDepth 100000
namespace Go.L12
open Go Go.Abs Go.Proofs

theorem shortP (x3 : Int) (x4 x5 x6 x7 x8 x9 : ByteArray) (x10 x11 : Int) : ∃ b, FOk Try.prog 12 [.agg (rQ x3 x4 x5 x6 x7 x8 x9 x10 x11)] [] (.bool b) [] := by
  have key : ∀ b, short_T x3 x4 x5 x6 x7 x8 x9 x10 x11 (fun r σ => r = .bool b ∧ σ = []) → ∃ b, FOk Try.prog 12 [.agg (rQ x3 x4 x5 x6 x7 x8 x9 x10 x11)] [] (.bool b) [] := fun b h => ⟨b, FOk.wp (short_wp x3 x4 x5 x6 x7 x8 x9 x10 x11 h)⟩
  cases h4 : litB x4 with
  | false => exact key false ⟨fun c => (by rw [h4] at c; cases c), fun _ => ⟨rfl, rfl⟩⟩
  | true =>
  cases h5 : litB x5 with
  | false => exact key false ⟨fun _ => ⟨fun c => (by rw [h5] at c; cases c), fun _ => ⟨rfl, rfl⟩⟩, fun c => (by rw [h4] at c; cases c)⟩
  | true =>
  cases h6 : litB x6 with
  | false => exact key false ⟨fun _ => ⟨fun _ => ⟨fun c => (by rw [h6] at c; cases c), fun _ => ⟨rfl, rfl⟩⟩, fun c => (by rw [h5] at c; cases c)⟩, fun c => (by rw [h4] at c; cases c)⟩
  | true =>
  cases h7 : litB x7 with
  | false => exact key false ⟨fun _ => ⟨fun _ => ⟨fun _ => ⟨fun c => (by rw [h7] at c; cases c), fun _ => ⟨rfl, rfl⟩⟩, fun c => (by rw [h6] at c; cases c)⟩, fun c => (by rw [h5] at c; cases c)⟩, fun c => (by rw [h4] at c; cases c)⟩
  | true =>
  cases h8 : litB x8 with
  | false => exact key false ⟨fun _ => ⟨fun _ => ⟨fun _ => ⟨fun _ => ⟨fun c => (by rw [h8] at c; cases c), fun _ => ⟨rfl, rfl⟩⟩, fun c => (by rw [h7] at c; cases c)⟩, fun c => (by rw [h6] at c; cases c)⟩, fun c => (by rw [h5] at c; cases c)⟩, fun c => (by rw [h4] at c; cases c)⟩
  | true => exact key (litB x9) ⟨fun _ => ⟨fun _ => ⟨fun _ => ⟨fun _ => ⟨fun _ => ⟨rfl, rfl⟩, fun c => (by rw [h8] at c; cases c)⟩, fun c => (by rw [h7] at c; cases c)⟩, fun c => (by rw [h6] at c; cases c)⟩, fun c => (by rw [h5] at c; cases c)⟩, fun c => (by rw [h4] at c; cases c)⟩
theorem pI_lt {n : Int} (h0 : 0 ≤ n) (h : n < 128) : pI n = some [UInt8.ofNat n.toNat] := by
  unfold pI
  rw [if_pos (show nOk n = true from decide_eq_true (by omega)), vbl_lt (by omega)]
theorem pS_lt {s : ByteArray} (h : s.size < 128) : pS s = some (UInt8.ofNat s.size :: lB s) := by
  unfold pS
  rw [if_pos (by omega), vbl_lt h]
  rfl
theorem awakeP : FOk Try.prog 14 [] [] (.bool true) [] := by
  have q : putAll TQ (vsQ 5 1 6 ⟨#[119]⟩ ⟨#[]⟩ ⟨#[]⟩ ⟨#[]⟩ ⟨#[]⟩ ⟨#[]⟩ 0 0) = some [5, 1, 6, 1, 119, 0, 0, 0, 0, 0, 0, 0] := by
    rw [osQ, pI_lt (by omega) (by omega), pI_lt (by omega) (by omega), pI_lt (by omega) (by omega), pI_lt (by omega) (by omega), pS_lt (by decide), pS_lt (by decide)]
    rfl
  have hq := putQ_ok 5 1 6 ⟨#[119]⟩ ⟨#[]⟩ ⟨#[]⟩ ⟨#[]⟩ ⟨#[]⟩ ⟨#[]⟩ 0 0 (by unfold bdQ; omega) _ q
  obtain ⟨b, hb⟩ : ∃ b, putAll TC (vsC 9 0 0 0 ⟨#[]⟩ ⟨#[]⟩ ⟨#[]⟩ ⟨#[]⟩ ⟨#[]⟩ ⟨#[]⟩ 0 0 0 0 3 0 0 false 0 ⟨#[]⟩) = some b := by
    rw [osC, pI_lt (n := 9) (by omega) (by omega), pI_lt (n := 0) (by omega) (by omega), pI_lt (n := 3) (by omega) (by omega), pS_lt (by decide)]
    exact ⟨_, rfl⟩
  have hc := putC_ok 9 0 0 0 ⟨#[]⟩ ⟨#[]⟩ ⟨#[]⟩ ⟨#[]⟩ ⟨#[]⟩ ⟨#[]⟩ 0 0 0 0 3 0 0 false 0 ⟨#[]⟩ (by unfold bdC; omega) b hb
  have hf := fromC_is 9 0 0 0 ⟨#[]⟩ ⟨#[]⟩ ⟨#[]⟩ ⟨#[]⟩ ⟨#[]⟩ ⟨#[]⟩ 0 0 0 0 3 0 0 false 0 ⟨#[]⟩ (Is.put (c := 67) (allFC _ _ _ _ _ _ _ _ _ _ _ _ _ _ _ _ _ _ _ _) hb)
  refine FOk.wp (awake_wp (bS (67 :: b)) ⟨#[]⟩ 0 0 0 ?_)
  unfold awake_T
  exact ⟨hq, hc, hf, rfl, rfl⟩
theorem puts_law (x0 x1 x2 x3 : Int) (x4 x5 x6 x7 x8 x9 : ByteArray) (x10 x11 x12 x13 x14 x15 x16 : Int) (x17 : Bool) (x18 : Int) (x19 : ByteArray) (hb : bdC x0 x1 x2 x3 x10 x11 x12 x13 x14 x15 x16 x18) : FOk Try.prog 3 [.agg (clC0 x0 x1 x2 x3 x4 x5 x6 x7 x8 x9 x10 x11 x12 x13 x14 x15 x16 x17 x18 x19)] [] (.bool true) [] := by
  obtain ⟨b1, h1⟩ := shortP x3 x4 x5 x6 x7 x8 x9 x10 x11
  obtain ⟨s, e, p1, p2, hi⟩ := put_any x0 x1 x2 x3 x4 x5 x6 x7 x8 x9 x10 x11 x12 x13 x14 x15 x16 x17 x18 x19 hb
  refine FOk.wp (cputs_wp x0 x1 x2 x3 x4 x5 x6 x7 x8 x9 x10 x11 x12 x13 x14 x15 x16 x17 x18 x19 s e b1 (litB x19) ?_)
  unfold cputs_T
  refine ⟨h1, fun _ => ⟨awakeP, rfl, rfl⟩, fun _ => ⟨lightP x19, fun _ => ⟨awakeP, rfl, rfl⟩, fun _ => ⟨p1, p2, fun c => absurd c (by simp), fun _ => ⟨fun c => absurd c (by simp), fun _ => ⟨fun _ => ⟨awakeP, rfl, rfl⟩, fun c => ?_⟩⟩⟩⟩⟩
  rcases hi with ⟨rfl, hi⟩ | rfl
  · exact ⟨fromC_is x0 x1 x2 x3 x4 x5 x6 x7 x8 x9 x10 x11 x12 x13 x14 x15 x16 x17 x18 x19 hi, fun _ => ⟨awakeP, rfl, rfl⟩, fun c => absurd c (by simp)⟩
  · exact absurd c (by decide)
end Go.L12
end

section
set_option linter.unusedVariables false
set_option linter.unusedSimpArgs false
set_option maxRecDepth 100000
namespace Go.L12
open Go Go.Abs Go.Proofs
theorem i64_wf {m : Int} (h : (Lit.int IntKind.i64 m).wf) : -9223372036854775808 ≤ m ∧ m < 9223372036854775808 := by
  simp [Lit.wf, IntKind.min, IntKind.signed, IntKind.bits] at h
  omega
theorem cmd_arg {t : TypeId} (ht : isAggT Try.prog t = true) {a : AVal} (h : okArg Try.prog t [.int .i64, .int .i64, .int .i64, .int .i64, .str, .str, .str, .str, .str, .str, .int .i64, .int .i64, .int .i64, .int .i64, .int .i64, .int .i64, .int .i64, .bool, .int .i64, .str] a) : ∃ (x0 x1 x2 x3 : Int) (x4 x5 x6 x7 x8 x9 : ByteArray) (x10 x11 x12 x13 x14 x15 x16 : Int) (x17 : Bool) (x18 : Int) (x19 : ByteArray), a = .agg (clC0 x0 x1 x2 x3 x4 x5 x6 x7 x8 x9 x10 x11 x12 x13 x14 x15 x16 x17 x18 x19) ∧ bdC x0 x1 x2 x3 x10 x11 x12 x13 x14 x15 x16 x18 := by
  unfold okArg at h
  rw [if_pos ht] at h
  obtain ⟨cs, rfl, h⟩ := h
  simp only [okKs, okK] at h
  obtain ⟨v, us, rfl, hv, h⟩ := h
  obtain ⟨x0, rfl, h0⟩ := hv
  obtain ⟨v, us, rfl, hv, h⟩ := h
  obtain ⟨x1, rfl, h1⟩ := hv
  obtain ⟨v, us, rfl, hv, h⟩ := h
  obtain ⟨x2, rfl, h2⟩ := hv
  obtain ⟨v, us, rfl, hv, h⟩ := h
  obtain ⟨x3, rfl, h3⟩ := hv
  obtain ⟨v, us, rfl, hv, h⟩ := h
  obtain ⟨x4, rfl, _⟩ := hv
  obtain ⟨v, us, rfl, hv, h⟩ := h
  obtain ⟨x5, rfl, _⟩ := hv
  obtain ⟨v, us, rfl, hv, h⟩ := h
  obtain ⟨x6, rfl, _⟩ := hv
  obtain ⟨v, us, rfl, hv, h⟩ := h
  obtain ⟨x7, rfl, _⟩ := hv
  obtain ⟨v, us, rfl, hv, h⟩ := h
  obtain ⟨x8, rfl, _⟩ := hv
  obtain ⟨v, us, rfl, hv, h⟩ := h
  obtain ⟨x9, rfl, _⟩ := hv
  obtain ⟨v, us, rfl, hv, h⟩ := h
  obtain ⟨x10, rfl, h10⟩ := hv
  obtain ⟨v, us, rfl, hv, h⟩ := h
  obtain ⟨x11, rfl, h11⟩ := hv
  obtain ⟨v, us, rfl, hv, h⟩ := h
  obtain ⟨x12, rfl, h12⟩ := hv
  obtain ⟨v, us, rfl, hv, h⟩ := h
  obtain ⟨x13, rfl, h13⟩ := hv
  obtain ⟨v, us, rfl, hv, h⟩ := h
  obtain ⟨x14, rfl, h14⟩ := hv
  obtain ⟨v, us, rfl, hv, h⟩ := h
  obtain ⟨x15, rfl, h15⟩ := hv
  obtain ⟨v, us, rfl, hv, h⟩ := h
  obtain ⟨x16, rfl, h16⟩ := hv
  obtain ⟨v, us, rfl, hv, h⟩ := h
  obtain ⟨x17, rfl⟩ := hv
  obtain ⟨v, us, rfl, hv, h⟩ := h
  obtain ⟨x18, rfl, h18⟩ := hv
  obtain ⟨v, us, rfl, hv, h⟩ := h
  obtain ⟨x19, rfl, _⟩ := hv
  subst h
  exact ⟨x0, x1, x2, x3, x4, x5, x6, x7, x8, x9, x10, x11, x12, x13, x14, x15, x16, x17, x18, x19, rfl, ⟨i64_wf h0, i64_wf h1, i64_wf h2, i64_wf h3, i64_wf h10, i64_wf h11, i64_wf h12, i64_wf h13, i64_wf h14, i64_wf h15, i64_wf h16, i64_wf h18⟩⟩
end Go.L12
end

section
set_option linter.unusedVariables false
set_option linter.unusedSimpArgs false
set_option maxRecDepth 100000
namespace Go.L12
open Go Go.Abs Go.Proofs
theorem puts_row (xs : List AVal) (h : okArgs Try.prog Try.f3.params.toList [[.int .i64, .int .i64, .int .i64, .int .i64, .str, .str, .str, .str, .str, .str, .int .i64, .int .i64, .int .i64, .int .i64, .int .i64, .int .i64, .int .i64, .bool, .int .i64, .str]] xs) : ∃ σ', FOk Try.prog 3 xs [] (.bool true) σ' := by
  obtain ⟨a, bs, rfl, h1, h2⟩ := h
  cases h2
  obtain ⟨x0, x1, x2, x3, x4, x5, x6, x7, x8, x9, x10, x11, x12, x13, x14, x15, x16, x17, x18, x19, rfl, hx⟩ := cmd_arg (by kernel_rfl) h1
  exact ⟨_, puts_law x0 x1 x2 x3 x4 x5 x6 x7 x8 x9 x10 x11 x12 x13 x14 x15 x16 x17 x18 x19 hx⟩
end Go.L12
end

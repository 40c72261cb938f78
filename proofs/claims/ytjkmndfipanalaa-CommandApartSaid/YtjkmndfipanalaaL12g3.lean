import Derived.Test.YtjkmndfipanalaaL12g2
section
set_option linter.unusedVariables false
set_option maxRecDepth 100000
namespace Go.L12
open Go Go.Abs Go.Proofs
theorem capart_1 (x0 x1 x2 x3 : Int) (x4 x5 x6 x7 x8 x9 : ByteArray) (x10 x11 x12 x13 x14 x15 x16 : Int) (x17 : Bool) (x18 : Int) (x19 : ByteArray) (y0 y1 y2 y3 : Int) (y4 y5 y6 y7 y8 y9 : ByteArray) (y10 y11 y12 y13 y14 y15 y16 : Int) (y17 : Bool) (y18 : Int) (y19 s t : ByteArray) (e f : Int) (b1 b2 b3 b4 : Bool)
    (h1 : FOk Try.prog 14 [] [] (AVal.bool true) [])
    (h2 : (!b1) = true)
    (h3 : FOk Try.prog 12 [AVal.agg (rQ x3 x4 x5 x6 x7 x8 x9 x10 x11)] [] (AVal.bool b1) []) :
    FOk Try.prog 6 ([AVal.agg (rC x0 x1 x2 x3 x4 x5 x6 x7 x8 x9 x10 x11 x12 x13 x14 x15 x16 x17 x18 x19), AVal.agg (rC y0 y1 y2 y3 y4 y5 y6 y7 y8 y9 y10 y11 y12 y13 y14 y15 y16 y17 y18 y19)]) ([]) (AVal.bool true) ([]) :=
  (evalF_ok followed Try.func6 (by kernel_rfl) (show evalF Try.prog Try.f6 ([AVal.agg (rC x0 x1 x2 x3 x4 x5 x6 x7 x8 x9 x10 x11 x12 x13 x14 x15 x16 x17 x18 x19), AVal.agg (rC y0 y1 y2 y3 y4 y5 y6 y7 y8 y9 y10 y11 y12 y13 y14 y15 y16 y17 y18 y19)]) ([]) ([Dec.use [] [AVal.agg (rQ x3 x4 x5 x6 x7 x8 x9 x10 x11)] [] (AVal.bool b1) [], Dec.br true, Dec.use [] [] [] (AVal.bool true) []]) = .ok (FRes.mk (AVal.bool true) ([AObj.rows true 20 [(rC x0 x1 x2 x3 x4 x5 x6 x7 x8 x9 x10 x11 x12 x13 x14 x15 x16 x17 x18 x19)], AObj.rows true 20 [(rC y0 y1 y2 y3 y4 y5 y6 y7 y8 y9 y10 y11 y12 y13 y14 y15 y16 y17 y18 y19)]]) ((Owed.use (owed Try.prog 0) 14 [] [] [AObj.rows true 20 [(rC x0 x1 x2 x3 x4 x5 x6 x7 x8 x9 x10 x11 x12 x13 x14 x15 x16 x17 x18 x19)], AObj.rows true 20 [(rC y0 y1 y2 y3 y4 y5 y6 y7 y8 y9 y10 y11 y12 y13 y14 y15 y16 y17 y18 y19)]] [] [] (AVal.bool true) []) :: (((!b1) = true) :: ((Owed.use (owed Try.prog 0) 12 [] [AVal.agg (rQ x3 x4 x5 x6 x7 x8 x9 x10 x11)] [AObj.rows true 20 [(rC x0 x1 x2 x3 x4 x5 x6 x7 x8 x9 x10 x11 x12 x13 x14 x15 x16 x17 x18 x19)], AObj.rows true 20 [(rC y0 y1 y2 y3 y4 y5 y6 y7 y8 y9 y10 y11 y12 y13 y14 y15 y16 y17 y18 y19)]] [AVal.agg (rQ x3 x4 x5 x6 x7 x8 x9 x10 x11)] [] (AVal.bool b1) []) :: (tr 3 ++ []))))) by kernel_rfl) (allP_of ⟨⟨h1, rfl, rfl, rfl⟩, ⟨h2, ⟨⟨h3, rfl, rfl, rfl⟩, (trC 3 trivial)⟩⟩⟩)).move ([]) (by kernel_rfl) (by kernel_rfl) (by kernel_rfl)

theorem capart_2 (x0 x1 x2 x3 : Int) (x4 x5 x6 x7 x8 x9 : ByteArray) (x10 x11 x12 x13 x14 x15 x16 : Int) (x17 : Bool) (x18 : Int) (x19 : ByteArray) (y0 y1 y2 y3 : Int) (y4 y5 y6 y7 y8 y9 : ByteArray) (y10 y11 y12 y13 y14 y15 y16 : Int) (y17 : Bool) (y18 : Int) (y19 s t : ByteArray) (e f : Int) (b1 b2 b3 b4 : Bool)
    (h1 : FOk Try.prog 14 [] [] (AVal.bool true) [])
    (h2 : (!b2) = true)
    (h3 : FOk Try.prog 12 [AVal.agg (rQ y3 y4 y5 y6 y7 y8 y9 y10 y11)] [] (AVal.bool b2) [])
    (h4 : (!b1) = false)
    (h5 : FOk Try.prog 12 [AVal.agg (rQ x3 x4 x5 x6 x7 x8 x9 x10 x11)] [] (AVal.bool b1) []) :
    FOk Try.prog 6 ([AVal.agg (rC x0 x1 x2 x3 x4 x5 x6 x7 x8 x9 x10 x11 x12 x13 x14 x15 x16 x17 x18 x19), AVal.agg (rC y0 y1 y2 y3 y4 y5 y6 y7 y8 y9 y10 y11 y12 y13 y14 y15 y16 y17 y18 y19)]) ([]) (AVal.bool true) ([]) :=
  (evalF_ok followed Try.func6 (by kernel_rfl) (show evalF Try.prog Try.f6 ([AVal.agg (rC x0 x1 x2 x3 x4 x5 x6 x7 x8 x9 x10 x11 x12 x13 x14 x15 x16 x17 x18 x19), AVal.agg (rC y0 y1 y2 y3 y4 y5 y6 y7 y8 y9 y10 y11 y12 y13 y14 y15 y16 y17 y18 y19)]) ([]) ([Dec.use [] [AVal.agg (rQ x3 x4 x5 x6 x7 x8 x9 x10 x11)] [] (AVal.bool b1) [], Dec.br false, Dec.use [] [AVal.agg (rQ y3 y4 y5 y6 y7 y8 y9 y10 y11)] [] (AVal.bool b2) [], Dec.br true, Dec.use [] [] [] (AVal.bool true) []]) = .ok (FRes.mk (AVal.bool true) ([AObj.rows true 20 [(rC x0 x1 x2 x3 x4 x5 x6 x7 x8 x9 x10 x11 x12 x13 x14 x15 x16 x17 x18 x19)], AObj.rows true 20 [(rC y0 y1 y2 y3 y4 y5 y6 y7 y8 y9 y10 y11 y12 y13 y14 y15 y16 y17 y18 y19)]]) ((Owed.use (owed Try.prog 0) 14 [] [] [AObj.rows true 20 [(rC x0 x1 x2 x3 x4 x5 x6 x7 x8 x9 x10 x11 x12 x13 x14 x15 x16 x17 x18 x19)], AObj.rows true 20 [(rC y0 y1 y2 y3 y4 y5 y6 y7 y8 y9 y10 y11 y12 y13 y14 y15 y16 y17 y18 y19)]] [] [] (AVal.bool true) []) :: (((!b2) = true) :: ((Owed.use (owed Try.prog 0) 12 [] [AVal.agg (rQ y3 y4 y5 y6 y7 y8 y9 y10 y11)] [AObj.rows true 20 [(rC x0 x1 x2 x3 x4 x5 x6 x7 x8 x9 x10 x11 x12 x13 x14 x15 x16 x17 x18 x19)], AObj.rows true 20 [(rC y0 y1 y2 y3 y4 y5 y6 y7 y8 y9 y10 y11 y12 y13 y14 y15 y16 y17 y18 y19)]] [AVal.agg (rQ y3 y4 y5 y6 y7 y8 y9 y10 y11)] [] (AVal.bool b2) []) :: (tr 3 ++ (((!b1) = false) :: ((Owed.use (owed Try.prog 0) 12 [] [AVal.agg (rQ x3 x4 x5 x6 x7 x8 x9 x10 x11)] [AObj.rows true 20 [(rC x0 x1 x2 x3 x4 x5 x6 x7 x8 x9 x10 x11 x12 x13 x14 x15 x16 x17 x18 x19)], AObj.rows true 20 [(rC y0 y1 y2 y3 y4 y5 y6 y7 y8 y9 y10 y11 y12 y13 y14 y15 y16 y17 y18 y19)]] [AVal.agg (rQ x3 x4 x5 x6 x7 x8 x9 x10 x11)] [] (AVal.bool b1) []) :: (tr 3 ++ [])))))))) by kernel_rfl) (allP_of ⟨⟨h1, rfl, rfl, rfl⟩, ⟨h2, ⟨⟨h3, rfl, rfl, rfl⟩, (trC 3 ⟨h4, ⟨⟨h5, rfl, rfl, rfl⟩, (trC 3 trivial)⟩⟩)⟩⟩⟩)).move ([]) (by kernel_rfl) (by kernel_rfl) (by kernel_rfl)

theorem capart_3 (x0 x1 x2 x3 : Int) (x4 x5 x6 x7 x8 x9 : ByteArray) (x10 x11 x12 x13 x14 x15 x16 : Int) (x17 : Bool) (x18 : Int) (x19 : ByteArray) (y0 y1 y2 y3 : Int) (y4 y5 y6 y7 y8 y9 : ByteArray) (y10 y11 y12 y13 y14 y15 y16 : Int) (y17 : Bool) (y18 : Int) (y19 s t : ByteArray) (e f : Int) (b1 b2 b3 b4 : Bool)
    (h1 : FOk Try.prog 14 [] [] (AVal.bool true) [])
    (h2 : (!b3) = true)
    (h3 : FOk Try.prog 13 [AVal.str x19] [] (AVal.bool b3) [])
    (h4 : (!b2) = false)
    (h5 : FOk Try.prog 12 [AVal.agg (rQ y3 y4 y5 y6 y7 y8 y9 y10 y11)] [] (AVal.bool b2) [])
    (h6 : (!b1) = false)
    (h7 : FOk Try.prog 12 [AVal.agg (rQ x3 x4 x5 x6 x7 x8 x9 x10 x11)] [] (AVal.bool b1) []) :
    FOk Try.prog 6 ([AVal.agg (rC x0 x1 x2 x3 x4 x5 x6 x7 x8 x9 x10 x11 x12 x13 x14 x15 x16 x17 x18 x19), AVal.agg (rC y0 y1 y2 y3 y4 y5 y6 y7 y8 y9 y10 y11 y12 y13 y14 y15 y16 y17 y18 y19)]) ([]) (AVal.bool true) ([]) :=
  (evalF_ok followed Try.func6 (by kernel_rfl) (show evalF Try.prog Try.f6 ([AVal.agg (rC x0 x1 x2 x3 x4 x5 x6 x7 x8 x9 x10 x11 x12 x13 x14 x15 x16 x17 x18 x19), AVal.agg (rC y0 y1 y2 y3 y4 y5 y6 y7 y8 y9 y10 y11 y12 y13 y14 y15 y16 y17 y18 y19)]) ([]) ([Dec.use [] [AVal.agg (rQ x3 x4 x5 x6 x7 x8 x9 x10 x11)] [] (AVal.bool b1) [], Dec.br false, Dec.use [] [AVal.agg (rQ y3 y4 y5 y6 y7 y8 y9 y10 y11)] [] (AVal.bool b2) [], Dec.br false, Dec.use [] [AVal.str x19] [] (AVal.bool b3) [], Dec.br true, Dec.use [] [] [] (AVal.bool true) []]) = .ok (FRes.mk (AVal.bool true) ([AObj.rows true 20 [(rC x0 x1 x2 x3 x4 x5 x6 x7 x8 x9 x10 x11 x12 x13 x14 x15 x16 x17 x18 x19)], AObj.rows true 20 [(rC y0 y1 y2 y3 y4 y5 y6 y7 y8 y9 y10 y11 y12 y13 y14 y15 y16 y17 y18 y19)]]) ((Owed.use (owed Try.prog 0) 14 [] [] [AObj.rows true 20 [(rC x0 x1 x2 x3 x4 x5 x6 x7 x8 x9 x10 x11 x12 x13 x14 x15 x16 x17 x18 x19)], AObj.rows true 20 [(rC y0 y1 y2 y3 y4 y5 y6 y7 y8 y9 y10 y11 y12 y13 y14 y15 y16 y17 y18 y19)]] [] [] (AVal.bool true) []) :: (((!b3) = true) :: ((Owed.use (owed Try.prog 0) 13 [] [AVal.str x19] [AObj.rows true 20 [(rC x0 x1 x2 x3 x4 x5 x6 x7 x8 x9 x10 x11 x12 x13 x14 x15 x16 x17 x18 x19)], AObj.rows true 20 [(rC y0 y1 y2 y3 y4 y5 y6 y7 y8 y9 y10 y11 y12 y13 y14 y15 y16 y17 y18 y19)]] [AVal.str x19] [] (AVal.bool b3) []) :: (tr 3 ++ (((!b2) = false) :: ((Owed.use (owed Try.prog 0) 12 [] [AVal.agg (rQ y3 y4 y5 y6 y7 y8 y9 y10 y11)] [AObj.rows true 20 [(rC x0 x1 x2 x3 x4 x5 x6 x7 x8 x9 x10 x11 x12 x13 x14 x15 x16 x17 x18 x19)], AObj.rows true 20 [(rC y0 y1 y2 y3 y4 y5 y6 y7 y8 y9 y10 y11 y12 y13 y14 y15 y16 y17 y18 y19)]] [AVal.agg (rQ y3 y4 y5 y6 y7 y8 y9 y10 y11)] [] (AVal.bool b2) []) :: (tr 3 ++ (((!b1) = false) :: ((Owed.use (owed Try.prog 0) 12 [] [AVal.agg (rQ x3 x4 x5 x6 x7 x8 x9 x10 x11)] [AObj.rows true 20 [(rC x0 x1 x2 x3 x4 x5 x6 x7 x8 x9 x10 x11 x12 x13 x14 x15 x16 x17 x18 x19)], AObj.rows true 20 [(rC y0 y1 y2 y3 y4 y5 y6 y7 y8 y9 y10 y11 y12 y13 y14 y15 y16 y17 y18 y19)]] [AVal.agg (rQ x3 x4 x5 x6 x7 x8 x9 x10 x11)] [] (AVal.bool b1) []) :: (tr 3 ++ []))))))))))) by kernel_rfl) (allP_of ⟨⟨h1, rfl, rfl, rfl⟩, ⟨h2, ⟨⟨h3, rfl, rfl, rfl⟩, (trC 3 ⟨h4, ⟨⟨h5, rfl, rfl, rfl⟩, (trC 3 ⟨h6, ⟨⟨h7, rfl, rfl, rfl⟩, (trC 3 trivial)⟩⟩)⟩⟩)⟩⟩⟩)).move ([]) (by kernel_rfl) (by kernel_rfl) (by kernel_rfl)

theorem capart_4 (x0 x1 x2 x3 : Int) (x4 x5 x6 x7 x8 x9 : ByteArray) (x10 x11 x12 x13 x14 x15 x16 : Int) (x17 : Bool) (x18 : Int) (x19 : ByteArray) (y0 y1 y2 y3 : Int) (y4 y5 y6 y7 y8 y9 : ByteArray) (y10 y11 y12 y13 y14 y15 y16 : Int) (y17 : Bool) (y18 : Int) (y19 s t : ByteArray) (e f : Int) (b1 b2 b3 b4 : Bool)
    (h1 : FOk Try.prog 14 [] [] (AVal.bool true) [])
    (h2 : (!b4) = true)
    (h3 : FOk Try.prog 13 [AVal.str y19] [] (AVal.bool b4) [])
    (h4 : (!b3) = false)
    (h5 : FOk Try.prog 13 [AVal.str x19] [] (AVal.bool b3) [])
    (h6 : (!b2) = false)
    (h7 : FOk Try.prog 12 [AVal.agg (rQ y3 y4 y5 y6 y7 y8 y9 y10 y11)] [] (AVal.bool b2) [])
    (h8 : (!b1) = false)
    (h9 : FOk Try.prog 12 [AVal.agg (rQ x3 x4 x5 x6 x7 x8 x9 x10 x11)] [] (AVal.bool b1) []) :
    FOk Try.prog 6 ([AVal.agg (rC x0 x1 x2 x3 x4 x5 x6 x7 x8 x9 x10 x11 x12 x13 x14 x15 x16 x17 x18 x19), AVal.agg (rC y0 y1 y2 y3 y4 y5 y6 y7 y8 y9 y10 y11 y12 y13 y14 y15 y16 y17 y18 y19)]) ([]) (AVal.bool true) ([]) :=
  (evalF_ok followed Try.func6 (by kernel_rfl) (show evalF Try.prog Try.f6 ([AVal.agg (rC x0 x1 x2 x3 x4 x5 x6 x7 x8 x9 x10 x11 x12 x13 x14 x15 x16 x17 x18 x19), AVal.agg (rC y0 y1 y2 y3 y4 y5 y6 y7 y8 y9 y10 y11 y12 y13 y14 y15 y16 y17 y18 y19)]) ([]) ([Dec.use [] [AVal.agg (rQ x3 x4 x5 x6 x7 x8 x9 x10 x11)] [] (AVal.bool b1) [], Dec.br false, Dec.use [] [AVal.agg (rQ y3 y4 y5 y6 y7 y8 y9 y10 y11)] [] (AVal.bool b2) [], Dec.br false, Dec.use [] [AVal.str x19] [] (AVal.bool b3) [], Dec.br false, Dec.use [] [AVal.str y19] [] (AVal.bool b4) [], Dec.br true, Dec.use [] [] [] (AVal.bool true) []]) = .ok (FRes.mk (AVal.bool true) ([AObj.rows true 20 [(rC x0 x1 x2 x3 x4 x5 x6 x7 x8 x9 x10 x11 x12 x13 x14 x15 x16 x17 x18 x19)], AObj.rows true 20 [(rC y0 y1 y2 y3 y4 y5 y6 y7 y8 y9 y10 y11 y12 y13 y14 y15 y16 y17 y18 y19)]]) ((Owed.use (owed Try.prog 0) 14 [] [] [AObj.rows true 20 [(rC x0 x1 x2 x3 x4 x5 x6 x7 x8 x9 x10 x11 x12 x13 x14 x15 x16 x17 x18 x19)], AObj.rows true 20 [(rC y0 y1 y2 y3 y4 y5 y6 y7 y8 y9 y10 y11 y12 y13 y14 y15 y16 y17 y18 y19)]] [] [] (AVal.bool true) []) :: (((!b4) = true) :: ((Owed.use (owed Try.prog 0) 13 [] [AVal.str y19] [AObj.rows true 20 [(rC x0 x1 x2 x3 x4 x5 x6 x7 x8 x9 x10 x11 x12 x13 x14 x15 x16 x17 x18 x19)], AObj.rows true 20 [(rC y0 y1 y2 y3 y4 y5 y6 y7 y8 y9 y10 y11 y12 y13 y14 y15 y16 y17 y18 y19)]] [AVal.str y19] [] (AVal.bool b4) []) :: (tr 3 ++ (((!b3) = false) :: ((Owed.use (owed Try.prog 0) 13 [] [AVal.str x19] [AObj.rows true 20 [(rC x0 x1 x2 x3 x4 x5 x6 x7 x8 x9 x10 x11 x12 x13 x14 x15 x16 x17 x18 x19)], AObj.rows true 20 [(rC y0 y1 y2 y3 y4 y5 y6 y7 y8 y9 y10 y11 y12 y13 y14 y15 y16 y17 y18 y19)]] [AVal.str x19] [] (AVal.bool b3) []) :: (tr 3 ++ (((!b2) = false) :: ((Owed.use (owed Try.prog 0) 12 [] [AVal.agg (rQ y3 y4 y5 y6 y7 y8 y9 y10 y11)] [AObj.rows true 20 [(rC x0 x1 x2 x3 x4 x5 x6 x7 x8 x9 x10 x11 x12 x13 x14 x15 x16 x17 x18 x19)], AObj.rows true 20 [(rC y0 y1 y2 y3 y4 y5 y6 y7 y8 y9 y10 y11 y12 y13 y14 y15 y16 y17 y18 y19)]] [AVal.agg (rQ y3 y4 y5 y6 y7 y8 y9 y10 y11)] [] (AVal.bool b2) []) :: (tr 3 ++ (((!b1) = false) :: ((Owed.use (owed Try.prog 0) 12 [] [AVal.agg (rQ x3 x4 x5 x6 x7 x8 x9 x10 x11)] [AObj.rows true 20 [(rC x0 x1 x2 x3 x4 x5 x6 x7 x8 x9 x10 x11 x12 x13 x14 x15 x16 x17 x18 x19)], AObj.rows true 20 [(rC y0 y1 y2 y3 y4 y5 y6 y7 y8 y9 y10 y11 y12 y13 y14 y15 y16 y17 y18 y19)]] [AVal.agg (rQ x3 x4 x5 x6 x7 x8 x9 x10 x11)] [] (AVal.bool b1) []) :: (tr 3 ++ [])))))))))))))) by kernel_rfl) (allP_of ⟨⟨h1, rfl, rfl, rfl⟩, ⟨h2, ⟨⟨h3, rfl, rfl, rfl⟩, (trC 3 ⟨h4, ⟨⟨h5, rfl, rfl, rfl⟩, (trC 3 ⟨h6, ⟨⟨h7, rfl, rfl, rfl⟩, (trC 3 ⟨h8, ⟨⟨h9, rfl, rfl, rfl⟩, (trC 3 trivial)⟩⟩)⟩⟩)⟩⟩)⟩⟩⟩)).move ([]) (by kernel_rfl) (by kernel_rfl) (by kernel_rfl)

theorem capart_5 (x0 x1 x2 x3 : Int) (x4 x5 x6 x7 x8 x9 : ByteArray) (x10 x11 x12 x13 x14 x15 x16 : Int) (x17 : Bool) (x18 : Int) (x19 : ByteArray) (y0 y1 y2 y3 : Int) (y4 y5 y6 y7 y8 y9 : ByteArray) (y10 y11 y12 y13 y14 y15 y16 : Int) (y17 : Bool) (y18 : Int) (y19 s t : ByteArray) (e f : Int) (b1 b2 b3 b4 : Bool)
    (h1 : FOk Try.prog 14 [] [] (AVal.bool true) [])
    (h2 : (e != 0) = true)
    (h3 : FOk Try.prog 15 [AVal.agg (rC y0 y1 y2 y3 y4 y5 y6 y7 y8 y9 y10 y11 y12 y13 y14 y15 y16 y17 y18 y19)] [] (AVal.tuple [AVal.str t, AVal.int IntKind.i64 f]) [])
    (h4 : FOk Try.prog 15 [AVal.agg (rC x0 x1 x2 x3 x4 x5 x6 x7 x8 x9 x10 x11 x12 x13 x14 x15 x16 x17 x18 x19)] [] (AVal.tuple [AVal.str s, AVal.int IntKind.i64 e]) [])
    (h5 : (!b4) = false)
    (h6 : FOk Try.prog 13 [AVal.str y19] [] (AVal.bool b4) [])
    (h7 : (!b3) = false)
    (h8 : FOk Try.prog 13 [AVal.str x19] [] (AVal.bool b3) [])
    (h9 : (!b2) = false)
    (h10 : FOk Try.prog 12 [AVal.agg (rQ y3 y4 y5 y6 y7 y8 y9 y10 y11)] [] (AVal.bool b2) [])
    (h11 : (!b1) = false)
    (h12 : FOk Try.prog 12 [AVal.agg (rQ x3 x4 x5 x6 x7 x8 x9 x10 x11)] [] (AVal.bool b1) []) :
    FOk Try.prog 6 ([AVal.agg (rC x0 x1 x2 x3 x4 x5 x6 x7 x8 x9 x10 x11 x12 x13 x14 x15 x16 x17 x18 x19), AVal.agg (rC y0 y1 y2 y3 y4 y5 y6 y7 y8 y9 y10 y11 y12 y13 y14 y15 y16 y17 y18 y19)]) ([]) (AVal.bool true) ([]) :=
  (evalF_ok followed Try.func6 (by kernel_rfl) (show evalF Try.prog Try.f6 ([AVal.agg (rC x0 x1 x2 x3 x4 x5 x6 x7 x8 x9 x10 x11 x12 x13 x14 x15 x16 x17 x18 x19), AVal.agg (rC y0 y1 y2 y3 y4 y5 y6 y7 y8 y9 y10 y11 y12 y13 y14 y15 y16 y17 y18 y19)]) ([]) ([Dec.use [] [AVal.agg (rQ x3 x4 x5 x6 x7 x8 x9 x10 x11)] [] (AVal.bool b1) [], Dec.br false, Dec.use [] [AVal.agg (rQ y3 y4 y5 y6 y7 y8 y9 y10 y11)] [] (AVal.bool b2) [], Dec.br false, Dec.use [] [AVal.str x19] [] (AVal.bool b3) [], Dec.br false, Dec.use [] [AVal.str y19] [] (AVal.bool b4) [], Dec.br false, Dec.use [] [AVal.agg (rC x0 x1 x2 x3 x4 x5 x6 x7 x8 x9 x10 x11 x12 x13 x14 x15 x16 x17 x18 x19)] [] (AVal.tuple [AVal.str s, AVal.int IntKind.i64 e]) [], Dec.use [] [AVal.agg (rC y0 y1 y2 y3 y4 y5 y6 y7 y8 y9 y10 y11 y12 y13 y14 y15 y16 y17 y18 y19)] [] (AVal.tuple [AVal.str t, AVal.int IntKind.i64 f]) [], Dec.br true, Dec.use [] [] [] (AVal.bool true) []]) = .ok (FRes.mk (AVal.bool true) ([AObj.rows true 20 [(rC x0 x1 x2 x3 x4 x5 x6 x7 x8 x9 x10 x11 x12 x13 x14 x15 x16 x17 x18 x19)], AObj.rows true 20 [(rC y0 y1 y2 y3 y4 y5 y6 y7 y8 y9 y10 y11 y12 y13 y14 y15 y16 y17 y18 y19)]]) ((Owed.use (owed Try.prog 0) 14 [] [] [AObj.rows true 20 [(rC x0 x1 x2 x3 x4 x5 x6 x7 x8 x9 x10 x11 x12 x13 x14 x15 x16 x17 x18 x19)], AObj.rows true 20 [(rC y0 y1 y2 y3 y4 y5 y6 y7 y8 y9 y10 y11 y12 y13 y14 y15 y16 y17 y18 y19)]] [] [] (AVal.bool true) []) :: (((e != 0) = true) :: ((Owed.use (owed Try.prog 0) 15 [] [AVal.agg (rC y0 y1 y2 y3 y4 y5 y6 y7 y8 y9 y10 y11 y12 y13 y14 y15 y16 y17 y18 y19)] [AObj.rows true 20 [(rC x0 x1 x2 x3 x4 x5 x6 x7 x8 x9 x10 x11 x12 x13 x14 x15 x16 x17 x18 x19)], AObj.rows true 20 [(rC y0 y1 y2 y3 y4 y5 y6 y7 y8 y9 y10 y11 y12 y13 y14 y15 y16 y17 y18 y19)]] [AVal.agg (rC y0 y1 y2 y3 y4 y5 y6 y7 y8 y9 y10 y11 y12 y13 y14 y15 y16 y17 y18 y19)] [] (AVal.tuple [AVal.str t, AVal.int IntKind.i64 f]) []) :: (tr 3 ++ ((Owed.use (owed Try.prog 0) 15 [] [AVal.agg (rC x0 x1 x2 x3 x4 x5 x6 x7 x8 x9 x10 x11 x12 x13 x14 x15 x16 x17 x18 x19)] [AObj.rows true 20 [(rC x0 x1 x2 x3 x4 x5 x6 x7 x8 x9 x10 x11 x12 x13 x14 x15 x16 x17 x18 x19)], AObj.rows true 20 [(rC y0 y1 y2 y3 y4 y5 y6 y7 y8 y9 y10 y11 y12 y13 y14 y15 y16 y17 y18 y19)]] [AVal.agg (rC x0 x1 x2 x3 x4 x5 x6 x7 x8 x9 x10 x11 x12 x13 x14 x15 x16 x17 x18 x19)] [] (AVal.tuple [AVal.str s, AVal.int IntKind.i64 e]) []) :: (tr 3 ++ (((!b4) = false) :: ((Owed.use (owed Try.prog 0) 13 [] [AVal.str y19] [AObj.rows true 20 [(rC x0 x1 x2 x3 x4 x5 x6 x7 x8 x9 x10 x11 x12 x13 x14 x15 x16 x17 x18 x19)], AObj.rows true 20 [(rC y0 y1 y2 y3 y4 y5 y6 y7 y8 y9 y10 y11 y12 y13 y14 y15 y16 y17 y18 y19)]] [AVal.str y19] [] (AVal.bool b4) []) :: (tr 3 ++ (((!b3) = false) :: ((Owed.use (owed Try.prog 0) 13 [] [AVal.str x19] [AObj.rows true 20 [(rC x0 x1 x2 x3 x4 x5 x6 x7 x8 x9 x10 x11 x12 x13 x14 x15 x16 x17 x18 x19)], AObj.rows true 20 [(rC y0 y1 y2 y3 y4 y5 y6 y7 y8 y9 y10 y11 y12 y13 y14 y15 y16 y17 y18 y19)]] [AVal.str x19] [] (AVal.bool b3) []) :: (tr 3 ++ (((!b2) = false) :: ((Owed.use (owed Try.prog 0) 12 [] [AVal.agg (rQ y3 y4 y5 y6 y7 y8 y9 y10 y11)] [AObj.rows true 20 [(rC x0 x1 x2 x3 x4 x5 x6 x7 x8 x9 x10 x11 x12 x13 x14 x15 x16 x17 x18 x19)], AObj.rows true 20 [(rC y0 y1 y2 y3 y4 y5 y6 y7 y8 y9 y10 y11 y12 y13 y14 y15 y16 y17 y18 y19)]] [AVal.agg (rQ y3 y4 y5 y6 y7 y8 y9 y10 y11)] [] (AVal.bool b2) []) :: (tr 3 ++ (((!b1) = false) :: ((Owed.use (owed Try.prog 0) 12 [] [AVal.agg (rQ x3 x4 x5 x6 x7 x8 x9 x10 x11)] [AObj.rows true 20 [(rC x0 x1 x2 x3 x4 x5 x6 x7 x8 x9 x10 x11 x12 x13 x14 x15 x16 x17 x18 x19)], AObj.rows true 20 [(rC y0 y1 y2 y3 y4 y5 y6 y7 y8 y9 y10 y11 y12 y13 y14 y15 y16 y17 y18 y19)]] [AVal.agg (rQ x3 x4 x5 x6 x7 x8 x9 x10 x11)] [] (AVal.bool b1) []) :: (tr 3 ++ []))))))))))))))))))) by kernel_rfl) (allP_of ⟨⟨h1, rfl, rfl, rfl⟩, ⟨h2, ⟨⟨h3, rfl, rfl, rfl⟩, (trC 3 ⟨⟨h4, rfl, rfl, rfl⟩, (trC 3 ⟨h5, ⟨⟨h6, rfl, rfl, rfl⟩, (trC 3 ⟨h7, ⟨⟨h8, rfl, rfl, rfl⟩, (trC 3 ⟨h9, ⟨⟨h10, rfl, rfl, rfl⟩, (trC 3 ⟨h11, ⟨⟨h12, rfl, rfl, rfl⟩, (trC 3 trivial)⟩⟩)⟩⟩)⟩⟩)⟩⟩)⟩)⟩⟩⟩)).move ([]) (by kernel_rfl) (by kernel_rfl) (by kernel_rfl)

theorem capart_6 (x0 x1 x2 x3 : Int) (x4 x5 x6 x7 x8 x9 : ByteArray) (x10 x11 x12 x13 x14 x15 x16 : Int) (x17 : Bool) (x18 : Int) (x19 : ByteArray) (y0 y1 y2 y3 : Int) (y4 y5 y6 y7 y8 y9 : ByteArray) (y10 y11 y12 y13 y14 y15 y16 : Int) (y17 : Bool) (y18 : Int) (y19 s t : ByteArray) (e f : Int) (b1 b2 b3 b4 : Bool)
    (h1 : FOk Try.prog 14 [] [] (AVal.bool true) [])
    (h2 : (f != 0) = true)
    (h3 : (e != 0) = false)
    (h4 : FOk Try.prog 15 [AVal.agg (rC y0 y1 y2 y3 y4 y5 y6 y7 y8 y9 y10 y11 y12 y13 y14 y15 y16 y17 y18 y19)] [] (AVal.tuple [AVal.str t, AVal.int IntKind.i64 f]) [])
    (h5 : FOk Try.prog 15 [AVal.agg (rC x0 x1 x2 x3 x4 x5 x6 x7 x8 x9 x10 x11 x12 x13 x14 x15 x16 x17 x18 x19)] [] (AVal.tuple [AVal.str s, AVal.int IntKind.i64 e]) [])
    (h6 : (!b4) = false)
    (h7 : FOk Try.prog 13 [AVal.str y19] [] (AVal.bool b4) [])
    (h8 : (!b3) = false)
    (h9 : FOk Try.prog 13 [AVal.str x19] [] (AVal.bool b3) [])
    (h10 : (!b2) = false)
    (h11 : FOk Try.prog 12 [AVal.agg (rQ y3 y4 y5 y6 y7 y8 y9 y10 y11)] [] (AVal.bool b2) [])
    (h12 : (!b1) = false)
    (h13 : FOk Try.prog 12 [AVal.agg (rQ x3 x4 x5 x6 x7 x8 x9 x10 x11)] [] (AVal.bool b1) []) :
    FOk Try.prog 6 ([AVal.agg (rC x0 x1 x2 x3 x4 x5 x6 x7 x8 x9 x10 x11 x12 x13 x14 x15 x16 x17 x18 x19), AVal.agg (rC y0 y1 y2 y3 y4 y5 y6 y7 y8 y9 y10 y11 y12 y13 y14 y15 y16 y17 y18 y19)]) ([]) (AVal.bool true) ([]) :=
  (evalF_ok followed Try.func6 (by kernel_rfl) (show evalF Try.prog Try.f6 ([AVal.agg (rC x0 x1 x2 x3 x4 x5 x6 x7 x8 x9 x10 x11 x12 x13 x14 x15 x16 x17 x18 x19), AVal.agg (rC y0 y1 y2 y3 y4 y5 y6 y7 y8 y9 y10 y11 y12 y13 y14 y15 y16 y17 y18 y19)]) ([]) ([Dec.use [] [AVal.agg (rQ x3 x4 x5 x6 x7 x8 x9 x10 x11)] [] (AVal.bool b1) [], Dec.br false, Dec.use [] [AVal.agg (rQ y3 y4 y5 y6 y7 y8 y9 y10 y11)] [] (AVal.bool b2) [], Dec.br false, Dec.use [] [AVal.str x19] [] (AVal.bool b3) [], Dec.br false, Dec.use [] [AVal.str y19] [] (AVal.bool b4) [], Dec.br false, Dec.use [] [AVal.agg (rC x0 x1 x2 x3 x4 x5 x6 x7 x8 x9 x10 x11 x12 x13 x14 x15 x16 x17 x18 x19)] [] (AVal.tuple [AVal.str s, AVal.int IntKind.i64 e]) [], Dec.use [] [AVal.agg (rC y0 y1 y2 y3 y4 y5 y6 y7 y8 y9 y10 y11 y12 y13 y14 y15 y16 y17 y18 y19)] [] (AVal.tuple [AVal.str t, AVal.int IntKind.i64 f]) [], Dec.br false, Dec.br true, Dec.use [] [] [] (AVal.bool true) []]) = .ok (FRes.mk (AVal.bool true) ([AObj.rows true 20 [(rC x0 x1 x2 x3 x4 x5 x6 x7 x8 x9 x10 x11 x12 x13 x14 x15 x16 x17 x18 x19)], AObj.rows true 20 [(rC y0 y1 y2 y3 y4 y5 y6 y7 y8 y9 y10 y11 y12 y13 y14 y15 y16 y17 y18 y19)]]) ((Owed.use (owed Try.prog 0) 14 [] [] [AObj.rows true 20 [(rC x0 x1 x2 x3 x4 x5 x6 x7 x8 x9 x10 x11 x12 x13 x14 x15 x16 x17 x18 x19)], AObj.rows true 20 [(rC y0 y1 y2 y3 y4 y5 y6 y7 y8 y9 y10 y11 y12 y13 y14 y15 y16 y17 y18 y19)]] [] [] (AVal.bool true) []) :: (((f != 0) = true) :: (((e != 0) = false) :: ((Owed.use (owed Try.prog 0) 15 [] [AVal.agg (rC y0 y1 y2 y3 y4 y5 y6 y7 y8 y9 y10 y11 y12 y13 y14 y15 y16 y17 y18 y19)] [AObj.rows true 20 [(rC x0 x1 x2 x3 x4 x5 x6 x7 x8 x9 x10 x11 x12 x13 x14 x15 x16 x17 x18 x19)], AObj.rows true 20 [(rC y0 y1 y2 y3 y4 y5 y6 y7 y8 y9 y10 y11 y12 y13 y14 y15 y16 y17 y18 y19)]] [AVal.agg (rC y0 y1 y2 y3 y4 y5 y6 y7 y8 y9 y10 y11 y12 y13 y14 y15 y16 y17 y18 y19)] [] (AVal.tuple [AVal.str t, AVal.int IntKind.i64 f]) []) :: (tr 3 ++ ((Owed.use (owed Try.prog 0) 15 [] [AVal.agg (rC x0 x1 x2 x3 x4 x5 x6 x7 x8 x9 x10 x11 x12 x13 x14 x15 x16 x17 x18 x19)] [AObj.rows true 20 [(rC x0 x1 x2 x3 x4 x5 x6 x7 x8 x9 x10 x11 x12 x13 x14 x15 x16 x17 x18 x19)], AObj.rows true 20 [(rC y0 y1 y2 y3 y4 y5 y6 y7 y8 y9 y10 y11 y12 y13 y14 y15 y16 y17 y18 y19)]] [AVal.agg (rC x0 x1 x2 x3 x4 x5 x6 x7 x8 x9 x10 x11 x12 x13 x14 x15 x16 x17 x18 x19)] [] (AVal.tuple [AVal.str s, AVal.int IntKind.i64 e]) []) :: (tr 3 ++ (((!b4) = false) :: ((Owed.use (owed Try.prog 0) 13 [] [AVal.str y19] [AObj.rows true 20 [(rC x0 x1 x2 x3 x4 x5 x6 x7 x8 x9 x10 x11 x12 x13 x14 x15 x16 x17 x18 x19)], AObj.rows true 20 [(rC y0 y1 y2 y3 y4 y5 y6 y7 y8 y9 y10 y11 y12 y13 y14 y15 y16 y17 y18 y19)]] [AVal.str y19] [] (AVal.bool b4) []) :: (tr 3 ++ (((!b3) = false) :: ((Owed.use (owed Try.prog 0) 13 [] [AVal.str x19] [AObj.rows true 20 [(rC x0 x1 x2 x3 x4 x5 x6 x7 x8 x9 x10 x11 x12 x13 x14 x15 x16 x17 x18 x19)], AObj.rows true 20 [(rC y0 y1 y2 y3 y4 y5 y6 y7 y8 y9 y10 y11 y12 y13 y14 y15 y16 y17 y18 y19)]] [AVal.str x19] [] (AVal.bool b3) []) :: (tr 3 ++ (((!b2) = false) :: ((Owed.use (owed Try.prog 0) 12 [] [AVal.agg (rQ y3 y4 y5 y6 y7 y8 y9 y10 y11)] [AObj.rows true 20 [(rC x0 x1 x2 x3 x4 x5 x6 x7 x8 x9 x10 x11 x12 x13 x14 x15 x16 x17 x18 x19)], AObj.rows true 20 [(rC y0 y1 y2 y3 y4 y5 y6 y7 y8 y9 y10 y11 y12 y13 y14 y15 y16 y17 y18 y19)]] [AVal.agg (rQ y3 y4 y5 y6 y7 y8 y9 y10 y11)] [] (AVal.bool b2) []) :: (tr 3 ++ (((!b1) = false) :: ((Owed.use (owed Try.prog 0) 12 [] [AVal.agg (rQ x3 x4 x5 x6 x7 x8 x9 x10 x11)] [AObj.rows true 20 [(rC x0 x1 x2 x3 x4 x5 x6 x7 x8 x9 x10 x11 x12 x13 x14 x15 x16 x17 x18 x19)], AObj.rows true 20 [(rC y0 y1 y2 y3 y4 y5 y6 y7 y8 y9 y10 y11 y12 y13 y14 y15 y16 y17 y18 y19)]] [AVal.agg (rQ x3 x4 x5 x6 x7 x8 x9 x10 x11)] [] (AVal.bool b1) []) :: (tr 3 ++ [])))))))))))))))))))) by kernel_rfl) (allP_of ⟨⟨h1, rfl, rfl, rfl⟩, ⟨h2, ⟨h3, ⟨⟨h4, rfl, rfl, rfl⟩, (trC 3 ⟨⟨h5, rfl, rfl, rfl⟩, (trC 3 ⟨h6, ⟨⟨h7, rfl, rfl, rfl⟩, (trC 3 ⟨h8, ⟨⟨h9, rfl, rfl, rfl⟩, (trC 3 ⟨h10, ⟨⟨h11, rfl, rfl, rfl⟩, (trC 3 ⟨h12, ⟨⟨h13, rfl, rfl, rfl⟩, (trC 3 trivial)⟩⟩)⟩⟩)⟩⟩)⟩⟩)⟩)⟩⟩⟩⟩)).move ([]) (by kernel_rfl) (by kernel_rfl) (by kernel_rfl)

theorem capart_7 (x0 x1 x2 x3 : Int) (x4 x5 x6 x7 x8 x9 : ByteArray) (x10 x11 x12 x13 x14 x15 x16 : Int) (x17 : Bool) (x18 : Int) (x19 : ByteArray) (y0 y1 y2 y3 : Int) (y4 y5 y6 y7 y8 y9 : ByteArray) (y10 y11 y12 y13 y14 y15 y16 : Int) (y17 : Bool) (y18 : Int) (y19 s t : ByteArray) (e f : Int) (b1 b2 b3 b4 : Bool)
    (h1 : FOk Try.prog 14 [] [] (AVal.bool true) [])
    (h2 : ((ByteArray.toList s == ByteArray.toList t) == (fun r => x0 == y0 && r) ((fun r => (fun r => x1 == y1 && r) ((fun r => x2 == y2 && r) true) && r) ((fun r => (fun r => x3 == y3 && r) ((fun r => ByteArray.toList x4 == ByteArray.toList y4 && r) ((fun r => ByteArray.toList x5 == ByteArray.toList y5 && r) ((fun r => ByteArray.toList x6 == ByteArray.toList y6 && r) ((fun r => ByteArray.toList x7 == ByteArray.toList y7 && r) ((fun r => ByteArray.toList x8 == ByteArray.toList y8 && r) ((fun r => ByteArray.toList x9 == ByteArray.toList y9 && r) ((fun r => x10 == y10 && r) ((fun r => x11 == y11 && r) true)))))))) && r) ((fun r => x12 == y12 && r) ((fun r => x13 == y13 && r) ((fun r => x14 == y14 && r) ((fun r => x15 == y15 && r) ((fun r => x16 == y16 && r) ((fun r => x17 == y17 && r) ((fun r => x18 == y18 && r) ((fun r => ByteArray.toList x19 == ByteArray.toList y19 && r) true))))))))))) = true)
    (h3 : (f != 0) = false)
    (h4 : (e != 0) = false)
    (h5 : FOk Try.prog 15 [AVal.agg (rC y0 y1 y2 y3 y4 y5 y6 y7 y8 y9 y10 y11 y12 y13 y14 y15 y16 y17 y18 y19)] [] (AVal.tuple [AVal.str t, AVal.int IntKind.i64 f]) [])
    (h6 : FOk Try.prog 15 [AVal.agg (rC x0 x1 x2 x3 x4 x5 x6 x7 x8 x9 x10 x11 x12 x13 x14 x15 x16 x17 x18 x19)] [] (AVal.tuple [AVal.str s, AVal.int IntKind.i64 e]) [])
    (h7 : (!b4) = false)
    (h8 : FOk Try.prog 13 [AVal.str y19] [] (AVal.bool b4) [])
    (h9 : (!b3) = false)
    (h10 : FOk Try.prog 13 [AVal.str x19] [] (AVal.bool b3) [])
    (h11 : (!b2) = false)
    (h12 : FOk Try.prog 12 [AVal.agg (rQ y3 y4 y5 y6 y7 y8 y9 y10 y11)] [] (AVal.bool b2) [])
    (h13 : (!b1) = false)
    (h14 : FOk Try.prog 12 [AVal.agg (rQ x3 x4 x5 x6 x7 x8 x9 x10 x11)] [] (AVal.bool b1) []) :
    FOk Try.prog 6 ([AVal.agg (rC x0 x1 x2 x3 x4 x5 x6 x7 x8 x9 x10 x11 x12 x13 x14 x15 x16 x17 x18 x19), AVal.agg (rC y0 y1 y2 y3 y4 y5 y6 y7 y8 y9 y10 y11 y12 y13 y14 y15 y16 y17 y18 y19)]) ([]) (AVal.bool true) ([]) :=
  (evalF_ok followed Try.func6 (by kernel_rfl) (show evalF Try.prog Try.f6 ([AVal.agg (rC x0 x1 x2 x3 x4 x5 x6 x7 x8 x9 x10 x11 x12 x13 x14 x15 x16 x17 x18 x19), AVal.agg (rC y0 y1 y2 y3 y4 y5 y6 y7 y8 y9 y10 y11 y12 y13 y14 y15 y16 y17 y18 y19)]) ([]) ([Dec.use [] [AVal.agg (rQ x3 x4 x5 x6 x7 x8 x9 x10 x11)] [] (AVal.bool b1) [], Dec.br false, Dec.use [] [AVal.agg (rQ y3 y4 y5 y6 y7 y8 y9 y10 y11)] [] (AVal.bool b2) [], Dec.br false, Dec.use [] [AVal.str x19] [] (AVal.bool b3) [], Dec.br false, Dec.use [] [AVal.str y19] [] (AVal.bool b4) [], Dec.br false, Dec.use [] [AVal.agg (rC x0 x1 x2 x3 x4 x5 x6 x7 x8 x9 x10 x11 x12 x13 x14 x15 x16 x17 x18 x19)] [] (AVal.tuple [AVal.str s, AVal.int IntKind.i64 e]) [], Dec.use [] [AVal.agg (rC y0 y1 y2 y3 y4 y5 y6 y7 y8 y9 y10 y11 y12 y13 y14 y15 y16 y17 y18 y19)] [] (AVal.tuple [AVal.str t, AVal.int IntKind.i64 f]) [], Dec.br false, Dec.br false, Dec.br true, Dec.use [] [] [] (AVal.bool true) []]) = .ok (FRes.mk (AVal.bool true) ([AObj.rows true 20 [(rC x0 x1 x2 x3 x4 x5 x6 x7 x8 x9 x10 x11 x12 x13 x14 x15 x16 x17 x18 x19)], AObj.rows true 20 [(rC y0 y1 y2 y3 y4 y5 y6 y7 y8 y9 y10 y11 y12 y13 y14 y15 y16 y17 y18 y19)]]) ((Owed.use (owed Try.prog 0) 14 [] [] [AObj.rows true 20 [(rC x0 x1 x2 x3 x4 x5 x6 x7 x8 x9 x10 x11 x12 x13 x14 x15 x16 x17 x18 x19)], AObj.rows true 20 [(rC y0 y1 y2 y3 y4 y5 y6 y7 y8 y9 y10 y11 y12 y13 y14 y15 y16 y17 y18 y19)]] [] [] (AVal.bool true) []) :: ((((ByteArray.toList s == ByteArray.toList t) == (fun r => x0 == y0 && r) ((fun r => (fun r => x1 == y1 && r) ((fun r => x2 == y2 && r) true) && r) ((fun r => (fun r => x3 == y3 && r) ((fun r => ByteArray.toList x4 == ByteArray.toList y4 && r) ((fun r => ByteArray.toList x5 == ByteArray.toList y5 && r) ((fun r => ByteArray.toList x6 == ByteArray.toList y6 && r) ((fun r => ByteArray.toList x7 == ByteArray.toList y7 && r) ((fun r => ByteArray.toList x8 == ByteArray.toList y8 && r) ((fun r => ByteArray.toList x9 == ByteArray.toList y9 && r) ((fun r => x10 == y10 && r) ((fun r => x11 == y11 && r) true)))))))) && r) ((fun r => x12 == y12 && r) ((fun r => x13 == y13 && r) ((fun r => x14 == y14 && r) ((fun r => x15 == y15 && r) ((fun r => x16 == y16 && r) ((fun r => x17 == y17 && r) ((fun r => x18 == y18 && r) ((fun r => ByteArray.toList x19 == ByteArray.toList y19 && r) true))))))))))) = true) :: (tr 6 ++ (((f != 0) = false) :: (((e != 0) = false) :: ((Owed.use (owed Try.prog 0) 15 [] [AVal.agg (rC y0 y1 y2 y3 y4 y5 y6 y7 y8 y9 y10 y11 y12 y13 y14 y15 y16 y17 y18 y19)] [AObj.rows true 20 [(rC x0 x1 x2 x3 x4 x5 x6 x7 x8 x9 x10 x11 x12 x13 x14 x15 x16 x17 x18 x19)], AObj.rows true 20 [(rC y0 y1 y2 y3 y4 y5 y6 y7 y8 y9 y10 y11 y12 y13 y14 y15 y16 y17 y18 y19)]] [AVal.agg (rC y0 y1 y2 y3 y4 y5 y6 y7 y8 y9 y10 y11 y12 y13 y14 y15 y16 y17 y18 y19)] [] (AVal.tuple [AVal.str t, AVal.int IntKind.i64 f]) []) :: (tr 3 ++ ((Owed.use (owed Try.prog 0) 15 [] [AVal.agg (rC x0 x1 x2 x3 x4 x5 x6 x7 x8 x9 x10 x11 x12 x13 x14 x15 x16 x17 x18 x19)] [AObj.rows true 20 [(rC x0 x1 x2 x3 x4 x5 x6 x7 x8 x9 x10 x11 x12 x13 x14 x15 x16 x17 x18 x19)], AObj.rows true 20 [(rC y0 y1 y2 y3 y4 y5 y6 y7 y8 y9 y10 y11 y12 y13 y14 y15 y16 y17 y18 y19)]] [AVal.agg (rC x0 x1 x2 x3 x4 x5 x6 x7 x8 x9 x10 x11 x12 x13 x14 x15 x16 x17 x18 x19)] [] (AVal.tuple [AVal.str s, AVal.int IntKind.i64 e]) []) :: (tr 3 ++ (((!b4) = false) :: ((Owed.use (owed Try.prog 0) 13 [] [AVal.str y19] [AObj.rows true 20 [(rC x0 x1 x2 x3 x4 x5 x6 x7 x8 x9 x10 x11 x12 x13 x14 x15 x16 x17 x18 x19)], AObj.rows true 20 [(rC y0 y1 y2 y3 y4 y5 y6 y7 y8 y9 y10 y11 y12 y13 y14 y15 y16 y17 y18 y19)]] [AVal.str y19] [] (AVal.bool b4) []) :: (tr 3 ++ (((!b3) = false) :: ((Owed.use (owed Try.prog 0) 13 [] [AVal.str x19] [AObj.rows true 20 [(rC x0 x1 x2 x3 x4 x5 x6 x7 x8 x9 x10 x11 x12 x13 x14 x15 x16 x17 x18 x19)], AObj.rows true 20 [(rC y0 y1 y2 y3 y4 y5 y6 y7 y8 y9 y10 y11 y12 y13 y14 y15 y16 y17 y18 y19)]] [AVal.str x19] [] (AVal.bool b3) []) :: (tr 3 ++ (((!b2) = false) :: ((Owed.use (owed Try.prog 0) 12 [] [AVal.agg (rQ y3 y4 y5 y6 y7 y8 y9 y10 y11)] [AObj.rows true 20 [(rC x0 x1 x2 x3 x4 x5 x6 x7 x8 x9 x10 x11 x12 x13 x14 x15 x16 x17 x18 x19)], AObj.rows true 20 [(rC y0 y1 y2 y3 y4 y5 y6 y7 y8 y9 y10 y11 y12 y13 y14 y15 y16 y17 y18 y19)]] [AVal.agg (rQ y3 y4 y5 y6 y7 y8 y9 y10 y11)] [] (AVal.bool b2) []) :: (tr 3 ++ (((!b1) = false) :: ((Owed.use (owed Try.prog 0) 12 [] [AVal.agg (rQ x3 x4 x5 x6 x7 x8 x9 x10 x11)] [AObj.rows true 20 [(rC x0 x1 x2 x3 x4 x5 x6 x7 x8 x9 x10 x11 x12 x13 x14 x15 x16 x17 x18 x19)], AObj.rows true 20 [(rC y0 y1 y2 y3 y4 y5 y6 y7 y8 y9 y10 y11 y12 y13 y14 y15 y16 y17 y18 y19)]] [AVal.agg (rQ x3 x4 x5 x6 x7 x8 x9 x10 x11)] [] (AVal.bool b1) []) :: (tr 3 ++ [])))))))))))))))))))))) by kernel_rfl) (allP_of ⟨⟨h1, rfl, rfl, rfl⟩, ⟨h2, (trC 6 ⟨h3, ⟨h4, ⟨⟨h5, rfl, rfl, rfl⟩, (trC 3 ⟨⟨h6, rfl, rfl, rfl⟩, (trC 3 ⟨h7, ⟨⟨h8, rfl, rfl, rfl⟩, (trC 3 ⟨h9, ⟨⟨h10, rfl, rfl, rfl⟩, (trC 3 ⟨h11, ⟨⟨h12, rfl, rfl, rfl⟩, (trC 3 ⟨h13, ⟨⟨h14, rfl, rfl, rfl⟩, (trC 3 trivial)⟩⟩)⟩⟩)⟩⟩)⟩⟩)⟩)⟩⟩⟩)⟩⟩)).move ([]) (by kernel_rfl) (by kernel_rfl) (by kernel_rfl)

theorem capart_8 (x0 x1 x2 x3 : Int) (x4 x5 x6 x7 x8 x9 : ByteArray) (x10 x11 x12 x13 x14 x15 x16 : Int) (x17 : Bool) (x18 : Int) (x19 : ByteArray) (y0 y1 y2 y3 : Int) (y4 y5 y6 y7 y8 y9 : ByteArray) (y10 y11 y12 y13 y14 y15 y16 : Int) (y17 : Bool) (y18 : Int) (y19 s t : ByteArray) (e f : Int) (b1 b2 b3 b4 : Bool)
    (h1 : ((ByteArray.toList s == ByteArray.toList t) == (fun r => x0 == y0 && r) ((fun r => (fun r => x1 == y1 && r) ((fun r => x2 == y2 && r) true) && r) ((fun r => (fun r => x3 == y3 && r) ((fun r => ByteArray.toList x4 == ByteArray.toList y4 && r) ((fun r => ByteArray.toList x5 == ByteArray.toList y5 && r) ((fun r => ByteArray.toList x6 == ByteArray.toList y6 && r) ((fun r => ByteArray.toList x7 == ByteArray.toList y7 && r) ((fun r => ByteArray.toList x8 == ByteArray.toList y8 && r) ((fun r => ByteArray.toList x9 == ByteArray.toList y9 && r) ((fun r => x10 == y10 && r) ((fun r => x11 == y11 && r) true)))))))) && r) ((fun r => x12 == y12 && r) ((fun r => x13 == y13 && r) ((fun r => x14 == y14 && r) ((fun r => x15 == y15 && r) ((fun r => x16 == y16 && r) ((fun r => x17 == y17 && r) ((fun r => x18 == y18 && r) ((fun r => ByteArray.toList x19 == ByteArray.toList y19 && r) true))))))))))) = false)
    (h2 : (f != 0) = false)
    (h3 : (e != 0) = false)
    (h4 : FOk Try.prog 15 [AVal.agg (rC y0 y1 y2 y3 y4 y5 y6 y7 y8 y9 y10 y11 y12 y13 y14 y15 y16 y17 y18 y19)] [] (AVal.tuple [AVal.str t, AVal.int IntKind.i64 f]) [])
    (h5 : FOk Try.prog 15 [AVal.agg (rC x0 x1 x2 x3 x4 x5 x6 x7 x8 x9 x10 x11 x12 x13 x14 x15 x16 x17 x18 x19)] [] (AVal.tuple [AVal.str s, AVal.int IntKind.i64 e]) [])
    (h6 : (!b4) = false)
    (h7 : FOk Try.prog 13 [AVal.str y19] [] (AVal.bool b4) [])
    (h8 : (!b3) = false)
    (h9 : FOk Try.prog 13 [AVal.str x19] [] (AVal.bool b3) [])
    (h10 : (!b2) = false)
    (h11 : FOk Try.prog 12 [AVal.agg (rQ y3 y4 y5 y6 y7 y8 y9 y10 y11)] [] (AVal.bool b2) [])
    (h12 : (!b1) = false)
    (h13 : FOk Try.prog 12 [AVal.agg (rQ x3 x4 x5 x6 x7 x8 x9 x10 x11)] [] (AVal.bool b1) []) :
    FOk Try.prog 6 ([AVal.agg (rC x0 x1 x2 x3 x4 x5 x6 x7 x8 x9 x10 x11 x12 x13 x14 x15 x16 x17 x18 x19), AVal.agg (rC y0 y1 y2 y3 y4 y5 y6 y7 y8 y9 y10 y11 y12 y13 y14 y15 y16 y17 y18 y19)]) ([]) (AVal.bool false) ([]) :=
  (evalF_ok followed Try.func6 (by kernel_rfl) (show evalF Try.prog Try.f6 ([AVal.agg (rC x0 x1 x2 x3 x4 x5 x6 x7 x8 x9 x10 x11 x12 x13 x14 x15 x16 x17 x18 x19), AVal.agg (rC y0 y1 y2 y3 y4 y5 y6 y7 y8 y9 y10 y11 y12 y13 y14 y15 y16 y17 y18 y19)]) ([]) ([Dec.use [] [AVal.agg (rQ x3 x4 x5 x6 x7 x8 x9 x10 x11)] [] (AVal.bool b1) [], Dec.br false, Dec.use [] [AVal.agg (rQ y3 y4 y5 y6 y7 y8 y9 y10 y11)] [] (AVal.bool b2) [], Dec.br false, Dec.use [] [AVal.str x19] [] (AVal.bool b3) [], Dec.br false, Dec.use [] [AVal.str y19] [] (AVal.bool b4) [], Dec.br false, Dec.use [] [AVal.agg (rC x0 x1 x2 x3 x4 x5 x6 x7 x8 x9 x10 x11 x12 x13 x14 x15 x16 x17 x18 x19)] [] (AVal.tuple [AVal.str s, AVal.int IntKind.i64 e]) [], Dec.use [] [AVal.agg (rC y0 y1 y2 y3 y4 y5 y6 y7 y8 y9 y10 y11 y12 y13 y14 y15 y16 y17 y18 y19)] [] (AVal.tuple [AVal.str t, AVal.int IntKind.i64 f]) [], Dec.br false, Dec.br false, Dec.br false]) = .ok (FRes.mk (AVal.bool false) ([AObj.rows true 20 [(rC x0 x1 x2 x3 x4 x5 x6 x7 x8 x9 x10 x11 x12 x13 x14 x15 x16 x17 x18 x19)], AObj.rows true 20 [(rC y0 y1 y2 y3 y4 y5 y6 y7 y8 y9 y10 y11 y12 y13 y14 y15 y16 y17 y18 y19)]]) ((((ByteArray.toList s == ByteArray.toList t) == (fun r => x0 == y0 && r) ((fun r => (fun r => x1 == y1 && r) ((fun r => x2 == y2 && r) true) && r) ((fun r => (fun r => x3 == y3 && r) ((fun r => ByteArray.toList x4 == ByteArray.toList y4 && r) ((fun r => ByteArray.toList x5 == ByteArray.toList y5 && r) ((fun r => ByteArray.toList x6 == ByteArray.toList y6 && r) ((fun r => ByteArray.toList x7 == ByteArray.toList y7 && r) ((fun r => ByteArray.toList x8 == ByteArray.toList y8 && r) ((fun r => ByteArray.toList x9 == ByteArray.toList y9 && r) ((fun r => x10 == y10 && r) ((fun r => x11 == y11 && r) true)))))))) && r) ((fun r => x12 == y12 && r) ((fun r => x13 == y13 && r) ((fun r => x14 == y14 && r) ((fun r => x15 == y15 && r) ((fun r => x16 == y16 && r) ((fun r => x17 == y17 && r) ((fun r => x18 == y18 && r) ((fun r => ByteArray.toList x19 == ByteArray.toList y19 && r) true))))))))))) = false) :: (tr 6 ++ (((f != 0) = false) :: (((e != 0) = false) :: ((Owed.use (owed Try.prog 0) 15 [] [AVal.agg (rC y0 y1 y2 y3 y4 y5 y6 y7 y8 y9 y10 y11 y12 y13 y14 y15 y16 y17 y18 y19)] [AObj.rows true 20 [(rC x0 x1 x2 x3 x4 x5 x6 x7 x8 x9 x10 x11 x12 x13 x14 x15 x16 x17 x18 x19)], AObj.rows true 20 [(rC y0 y1 y2 y3 y4 y5 y6 y7 y8 y9 y10 y11 y12 y13 y14 y15 y16 y17 y18 y19)]] [AVal.agg (rC y0 y1 y2 y3 y4 y5 y6 y7 y8 y9 y10 y11 y12 y13 y14 y15 y16 y17 y18 y19)] [] (AVal.tuple [AVal.str t, AVal.int IntKind.i64 f]) []) :: (tr 3 ++ ((Owed.use (owed Try.prog 0) 15 [] [AVal.agg (rC x0 x1 x2 x3 x4 x5 x6 x7 x8 x9 x10 x11 x12 x13 x14 x15 x16 x17 x18 x19)] [AObj.rows true 20 [(rC x0 x1 x2 x3 x4 x5 x6 x7 x8 x9 x10 x11 x12 x13 x14 x15 x16 x17 x18 x19)], AObj.rows true 20 [(rC y0 y1 y2 y3 y4 y5 y6 y7 y8 y9 y10 y11 y12 y13 y14 y15 y16 y17 y18 y19)]] [AVal.agg (rC x0 x1 x2 x3 x4 x5 x6 x7 x8 x9 x10 x11 x12 x13 x14 x15 x16 x17 x18 x19)] [] (AVal.tuple [AVal.str s, AVal.int IntKind.i64 e]) []) :: (tr 3 ++ (((!b4) = false) :: ((Owed.use (owed Try.prog 0) 13 [] [AVal.str y19] [AObj.rows true 20 [(rC x0 x1 x2 x3 x4 x5 x6 x7 x8 x9 x10 x11 x12 x13 x14 x15 x16 x17 x18 x19)], AObj.rows true 20 [(rC y0 y1 y2 y3 y4 y5 y6 y7 y8 y9 y10 y11 y12 y13 y14 y15 y16 y17 y18 y19)]] [AVal.str y19] [] (AVal.bool b4) []) :: (tr 3 ++ (((!b3) = false) :: ((Owed.use (owed Try.prog 0) 13 [] [AVal.str x19] [AObj.rows true 20 [(rC x0 x1 x2 x3 x4 x5 x6 x7 x8 x9 x10 x11 x12 x13 x14 x15 x16 x17 x18 x19)], AObj.rows true 20 [(rC y0 y1 y2 y3 y4 y5 y6 y7 y8 y9 y10 y11 y12 y13 y14 y15 y16 y17 y18 y19)]] [AVal.str x19] [] (AVal.bool b3) []) :: (tr 3 ++ (((!b2) = false) :: ((Owed.use (owed Try.prog 0) 12 [] [AVal.agg (rQ y3 y4 y5 y6 y7 y8 y9 y10 y11)] [AObj.rows true 20 [(rC x0 x1 x2 x3 x4 x5 x6 x7 x8 x9 x10 x11 x12 x13 x14 x15 x16 x17 x18 x19)], AObj.rows true 20 [(rC y0 y1 y2 y3 y4 y5 y6 y7 y8 y9 y10 y11 y12 y13 y14 y15 y16 y17 y18 y19)]] [AVal.agg (rQ y3 y4 y5 y6 y7 y8 y9 y10 y11)] [] (AVal.bool b2) []) :: (tr 3 ++ (((!b1) = false) :: ((Owed.use (owed Try.prog 0) 12 [] [AVal.agg (rQ x3 x4 x5 x6 x7 x8 x9 x10 x11)] [AObj.rows true 20 [(rC x0 x1 x2 x3 x4 x5 x6 x7 x8 x9 x10 x11 x12 x13 x14 x15 x16 x17 x18 x19)], AObj.rows true 20 [(rC y0 y1 y2 y3 y4 y5 y6 y7 y8 y9 y10 y11 y12 y13 y14 y15 y16 y17 y18 y19)]] [AVal.agg (rQ x3 x4 x5 x6 x7 x8 x9 x10 x11)] [] (AVal.bool b1) []) :: (tr 3 ++ []))))))))))))))))))))) by kernel_rfl) (allP_of ⟨h1, (trC 6 ⟨h2, ⟨h3, ⟨⟨h4, rfl, rfl, rfl⟩, (trC 3 ⟨⟨h5, rfl, rfl, rfl⟩, (trC 3 ⟨h6, ⟨⟨h7, rfl, rfl, rfl⟩, (trC 3 ⟨h8, ⟨⟨h9, rfl, rfl, rfl⟩, (trC 3 ⟨h10, ⟨⟨h11, rfl, rfl, rfl⟩, (trC 3 ⟨h12, ⟨⟨h13, rfl, rfl, rfl⟩, (trC 3 trivial)⟩⟩)⟩⟩)⟩⟩)⟩⟩)⟩)⟩⟩⟩)⟩)).move ([]) (by kernel_rfl) (by kernel_rfl) (by kernel_rfl)

def capart_T (x0 x1 x2 x3 : Int) (x4 x5 x6 x7 x8 x9 : ByteArray) (x10 x11 x12 x13 x14 x15 x16 : Int) (x17 : Bool) (x18 : Int) (x19 : ByteArray) (y0 y1 y2 y3 : Int) (y4 y5 y6 y7 y8 y9 : ByteArray) (y10 y11 y12 y13 y14 y15 y16 : Int) (y17 : Bool) (y18 : Int) (y19 s t : ByteArray) (e f : Int) (b1 b2 b3 b4 : Bool) (Q : AVal → AState → Prop) : Prop := (FOk Try.prog 12 [AVal.agg (rQ x3 x4 x5 x6 x7 x8 x9 x10 x11)] [] (AVal.bool b1) []) ∧ (((!b1) = true) → (FOk Try.prog 14 [] [] (AVal.bool true) []) ∧ Q (AVal.bool true) ([])) ∧ (((!b1) = false) → (FOk Try.prog 12 [AVal.agg (rQ y3 y4 y5 y6 y7 y8 y9 y10 y11)] [] (AVal.bool b2) []) ∧ (((!b2) = true) → (FOk Try.prog 14 [] [] (AVal.bool true) []) ∧ Q (AVal.bool true) ([])) ∧ (((!b2) = false) → (FOk Try.prog 13 [AVal.str x19] [] (AVal.bool b3) []) ∧ (((!b3) = true) → (FOk Try.prog 14 [] [] (AVal.bool true) []) ∧ Q (AVal.bool true) ([])) ∧ (((!b3) = false) → (FOk Try.prog 13 [AVal.str y19] [] (AVal.bool b4) []) ∧ (((!b4) = true) → (FOk Try.prog 14 [] [] (AVal.bool true) []) ∧ Q (AVal.bool true) ([])) ∧ (((!b4) = false) → (FOk Try.prog 15 [AVal.agg (rC x0 x1 x2 x3 x4 x5 x6 x7 x8 x9 x10 x11 x12 x13 x14 x15 x16 x17 x18 x19)] [] (AVal.tuple [AVal.str s, AVal.int IntKind.i64 e]) []) ∧ (FOk Try.prog 15 [AVal.agg (rC y0 y1 y2 y3 y4 y5 y6 y7 y8 y9 y10 y11 y12 y13 y14 y15 y16 y17 y18 y19)] [] (AVal.tuple [AVal.str t, AVal.int IntKind.i64 f]) []) ∧ (((e != 0) = true) → (FOk Try.prog 14 [] [] (AVal.bool true) []) ∧ Q (AVal.bool true) ([])) ∧ (((e != 0) = false) → (((f != 0) = true) → (FOk Try.prog 14 [] [] (AVal.bool true) []) ∧ Q (AVal.bool true) ([])) ∧ (((f != 0) = false) → ((((ByteArray.toList s == ByteArray.toList t) == (fun r => x0 == y0 && r) ((fun r => (fun r => x1 == y1 && r) ((fun r => x2 == y2 && r) true) && r) ((fun r => (fun r => x3 == y3 && r) ((fun r => ByteArray.toList x4 == ByteArray.toList y4 && r) ((fun r => ByteArray.toList x5 == ByteArray.toList y5 && r) ((fun r => ByteArray.toList x6 == ByteArray.toList y6 && r) ((fun r => ByteArray.toList x7 == ByteArray.toList y7 && r) ((fun r => ByteArray.toList x8 == ByteArray.toList y8 && r) ((fun r => ByteArray.toList x9 == ByteArray.toList y9 && r) ((fun r => x10 == y10 && r) ((fun r => x11 == y11 && r) true)))))))) && r) ((fun r => x12 == y12 && r) ((fun r => x13 == y13 && r) ((fun r => x14 == y14 && r) ((fun r => x15 == y15 && r) ((fun r => x16 == y16 && r) ((fun r => x17 == y17 && r) ((fun r => x18 == y18 && r) ((fun r => ByteArray.toList x19 == ByteArray.toList y19 && r) true))))))))))) = true) → (FOk Try.prog 14 [] [] (AVal.bool true) []) ∧ Q (AVal.bool true) ([])) ∧ ((((ByteArray.toList s == ByteArray.toList t) == (fun r => x0 == y0 && r) ((fun r => (fun r => x1 == y1 && r) ((fun r => x2 == y2 && r) true) && r) ((fun r => (fun r => x3 == y3 && r) ((fun r => ByteArray.toList x4 == ByteArray.toList y4 && r) ((fun r => ByteArray.toList x5 == ByteArray.toList y5 && r) ((fun r => ByteArray.toList x6 == ByteArray.toList y6 && r) ((fun r => ByteArray.toList x7 == ByteArray.toList y7 && r) ((fun r => ByteArray.toList x8 == ByteArray.toList y8 && r) ((fun r => ByteArray.toList x9 == ByteArray.toList y9 && r) ((fun r => x10 == y10 && r) ((fun r => x11 == y11 && r) true)))))))) && r) ((fun r => x12 == y12 && r) ((fun r => x13 == y13 && r) ((fun r => x14 == y14 && r) ((fun r => x15 == y15 && r) ((fun r => x16 == y16 && r) ((fun r => x17 == y17 && r) ((fun r => x18 == y18 && r) ((fun r => ByteArray.toList x19 == ByteArray.toList y19 && r) true))))))))))) = false) → Q (AVal.bool false) ([]))))))))
theorem capart_wp (x0 x1 x2 x3 : Int) (x4 x5 x6 x7 x8 x9 : ByteArray) (x10 x11 x12 x13 x14 x15 x16 : Int) (x17 : Bool) (x18 : Int) (x19 : ByteArray) (y0 y1 y2 y3 : Int) (y4 y5 y6 y7 y8 y9 : ByteArray) (y10 y11 y12 y13 y14 y15 y16 : Int) (y17 : Bool) (y18 : Int) (y19 s t : ByteArray) (e f : Int) (b1 b2 b3 b4 : Bool) {Q : AVal → AState → Prop} (h : capart_T x0 x1 x2 x3 x4 x5 x6 x7 x8 x9 x10 x11 x12 x13 x14 x15 x16 x17 x18 x19 y0 y1 y2 y3 y4 y5 y6 y7 y8 y9 y10 y11 y12 y13 y14 y15 y16 y17 y18 y19 s t e f b1 b2 b3 b4 Q) : ∃ r σ', FOk Try.prog 6 ([AVal.agg (rC x0 x1 x2 x3 x4 x5 x6 x7 x8 x9 x10 x11 x12 x13 x14 x15 x16 x17 x18 x19), AVal.agg (rC y0 y1 y2 y3 y4 y5 y6 y7 y8 y9 y10 y11 y12 y13 y14 y15 y16 y17 y18 y19)]) ([]) r σ' ∧ Q r σ' :=
  brE (fun (c0 : (!b1) = true) => ⟨_, _, capart_1 x0 x1 x2 x3 x4 x5 x6 x7 x8 x9 x10 x11 x12 x13 x14 x15 x16 x17 x18 x19 y0 y1 y2 y3 y4 y5 y6 y7 y8 y9 y10 y11 y12 y13 y14 y15 y16 y17 y18 y19 s t e f b1 b2 b3 b4 ((h.2.1 c0).1) (c0) (h.1), (h.2.1 c0).2⟩) (fun (c0 : (!b1) = false) => brE (fun (c1 : (!b2) = true) => ⟨_, _, capart_2 x0 x1 x2 x3 x4 x5 x6 x7 x8 x9 x10 x11 x12 x13 x14 x15 x16 x17 x18 x19 y0 y1 y2 y3 y4 y5 y6 y7 y8 y9 y10 y11 y12 y13 y14 y15 y16 y17 y18 y19 s t e f b1 b2 b3 b4 (((h.2.2 c0).2.1 c1).1) (c1) ((h.2.2 c0).1) (c0) (h.1), ((h.2.2 c0).2.1 c1).2⟩) (fun (c1 : (!b2) = false) => brE (fun (c2 : (!b3) = true) => ⟨_, _, capart_3 x0 x1 x2 x3 x4 x5 x6 x7 x8 x9 x10 x11 x12 x13 x14 x15 x16 x17 x18 x19 y0 y1 y2 y3 y4 y5 y6 y7 y8 y9 y10 y11 y12 y13 y14 y15 y16 y17 y18 y19 s t e f b1 b2 b3 b4 ((((h.2.2 c0).2.2 c1).2.1 c2).1) (c2) (((h.2.2 c0).2.2 c1).1) (c1) ((h.2.2 c0).1) (c0) (h.1), (((h.2.2 c0).2.2 c1).2.1 c2).2⟩) (fun (c2 : (!b3) = false) => brE (fun (c3 : (!b4) = true) => ⟨_, _, capart_4 x0 x1 x2 x3 x4 x5 x6 x7 x8 x9 x10 x11 x12 x13 x14 x15 x16 x17 x18 x19 y0 y1 y2 y3 y4 y5 y6 y7 y8 y9 y10 y11 y12 y13 y14 y15 y16 y17 y18 y19 s t e f b1 b2 b3 b4 (((((h.2.2 c0).2.2 c1).2.2 c2).2.1 c3).1) (c3) ((((h.2.2 c0).2.2 c1).2.2 c2).1) (c2) (((h.2.2 c0).2.2 c1).1) (c1) ((h.2.2 c0).1) (c0) (h.1), ((((h.2.2 c0).2.2 c1).2.2 c2).2.1 c3).2⟩) (fun (c3 : (!b4) = false) => brE (fun (c4 : (e != 0) = true) => ⟨_, _, capart_5 x0 x1 x2 x3 x4 x5 x6 x7 x8 x9 x10 x11 x12 x13 x14 x15 x16 x17 x18 x19 y0 y1 y2 y3 y4 y5 y6 y7 y8 y9 y10 y11 y12 y13 y14 y15 y16 y17 y18 y19 s t e f b1 b2 b3 b4 ((((((h.2.2 c0).2.2 c1).2.2 c2).2.2 c3).2.2.1 c4).1) (c4) (((((h.2.2 c0).2.2 c1).2.2 c2).2.2 c3).2.1) (((((h.2.2 c0).2.2 c1).2.2 c2).2.2 c3).1) (c3) ((((h.2.2 c0).2.2 c1).2.2 c2).1) (c2) (((h.2.2 c0).2.2 c1).1) (c1) ((h.2.2 c0).1) (c0) (h.1), (((((h.2.2 c0).2.2 c1).2.2 c2).2.2 c3).2.2.1 c4).2⟩) (fun (c4 : (e != 0) = false) => brE (fun (c5 : (f != 0) = true) => ⟨_, _, capart_6 x0 x1 x2 x3 x4 x5 x6 x7 x8 x9 x10 x11 x12 x13 x14 x15 x16 x17 x18 x19 y0 y1 y2 y3 y4 y5 y6 y7 y8 y9 y10 y11 y12 y13 y14 y15 y16 y17 y18 y19 s t e f b1 b2 b3 b4 (((((((h.2.2 c0).2.2 c1).2.2 c2).2.2 c3).2.2.2 c4).1 c5).1) (c5) (c4) (((((h.2.2 c0).2.2 c1).2.2 c2).2.2 c3).2.1) (((((h.2.2 c0).2.2 c1).2.2 c2).2.2 c3).1) (c3) ((((h.2.2 c0).2.2 c1).2.2 c2).1) (c2) (((h.2.2 c0).2.2 c1).1) (c1) ((h.2.2 c0).1) (c0) (h.1), ((((((h.2.2 c0).2.2 c1).2.2 c2).2.2 c3).2.2.2 c4).1 c5).2⟩) (fun (c5 : (f != 0) = false) => brE (fun (c6 : ((ByteArray.toList s == ByteArray.toList t) == (fun r => x0 == y0 && r) ((fun r => (fun r => x1 == y1 && r) ((fun r => x2 == y2 && r) true) && r) ((fun r => (fun r => x3 == y3 && r) ((fun r => ByteArray.toList x4 == ByteArray.toList y4 && r) ((fun r => ByteArray.toList x5 == ByteArray.toList y5 && r) ((fun r => ByteArray.toList x6 == ByteArray.toList y6 && r) ((fun r => ByteArray.toList x7 == ByteArray.toList y7 && r) ((fun r => ByteArray.toList x8 == ByteArray.toList y8 && r) ((fun r => ByteArray.toList x9 == ByteArray.toList y9 && r) ((fun r => x10 == y10 && r) ((fun r => x11 == y11 && r) true)))))))) && r) ((fun r => x12 == y12 && r) ((fun r => x13 == y13 && r) ((fun r => x14 == y14 && r) ((fun r => x15 == y15 && r) ((fun r => x16 == y16 && r) ((fun r => x17 == y17 && r) ((fun r => x18 == y18 && r) ((fun r => ByteArray.toList x19 == ByteArray.toList y19 && r) true))))))))))) = true) => ⟨_, _, capart_7 x0 x1 x2 x3 x4 x5 x6 x7 x8 x9 x10 x11 x12 x13 x14 x15 x16 x17 x18 x19 y0 y1 y2 y3 y4 y5 y6 y7 y8 y9 y10 y11 y12 y13 y14 y15 y16 y17 y18 y19 s t e f b1 b2 b3 b4 ((((((((h.2.2 c0).2.2 c1).2.2 c2).2.2 c3).2.2.2 c4).2 c5).1 c6).1) (c6) (c5) (c4) (((((h.2.2 c0).2.2 c1).2.2 c2).2.2 c3).2.1) (((((h.2.2 c0).2.2 c1).2.2 c2).2.2 c3).1) (c3) ((((h.2.2 c0).2.2 c1).2.2 c2).1) (c2) (((h.2.2 c0).2.2 c1).1) (c1) ((h.2.2 c0).1) (c0) (h.1), (((((((h.2.2 c0).2.2 c1).2.2 c2).2.2 c3).2.2.2 c4).2 c5).1 c6).2⟩) (fun (c6 : ((ByteArray.toList s == ByteArray.toList t) == (fun r => x0 == y0 && r) ((fun r => (fun r => x1 == y1 && r) ((fun r => x2 == y2 && r) true) && r) ((fun r => (fun r => x3 == y3 && r) ((fun r => ByteArray.toList x4 == ByteArray.toList y4 && r) ((fun r => ByteArray.toList x5 == ByteArray.toList y5 && r) ((fun r => ByteArray.toList x6 == ByteArray.toList y6 && r) ((fun r => ByteArray.toList x7 == ByteArray.toList y7 && r) ((fun r => ByteArray.toList x8 == ByteArray.toList y8 && r) ((fun r => ByteArray.toList x9 == ByteArray.toList y9 && r) ((fun r => x10 == y10 && r) ((fun r => x11 == y11 && r) true)))))))) && r) ((fun r => x12 == y12 && r) ((fun r => x13 == y13 && r) ((fun r => x14 == y14 && r) ((fun r => x15 == y15 && r) ((fun r => x16 == y16 && r) ((fun r => x17 == y17 && r) ((fun r => x18 == y18 && r) ((fun r => ByteArray.toList x19 == ByteArray.toList y19 && r) true))))))))))) = false) => ⟨_, _, capart_8 x0 x1 x2 x3 x4 x5 x6 x7 x8 x9 x10 x11 x12 x13 x14 x15 x16 x17 x18 x19 y0 y1 y2 y3 y4 y5 y6 y7 y8 y9 y10 y11 y12 y13 y14 y15 y16 y17 y18 y19 s t e f b1 b2 b3 b4 (c6) (c5) (c4) (((((h.2.2 c0).2.2 c1).2.2 c2).2.2 c3).2.1) (((((h.2.2 c0).2.2 c1).2.2 c2).2.2 c3).1) (c3) ((((h.2.2 c0).2.2 c1).2.2 c2).1) (c2) (((h.2.2 c0).2.2 c1).1) (c1) ((h.2.2 c0).1) (c0) (h.1), (((((((h.2.2 c0).2.2 c1).2.2 c2).2.2 c3).2.2.2 c4).2 c5).2 c6)⟩)))))))


end Go.L12
end

section
set_option linter.unusedVariables false
set_option linter.unusedSimpArgs false
set_option maxRecDepth 100000
namespace Go.L12
open Go Go.Abs Go.Proofs
theorem put_any (c0 c1 c2 c3 : Int) (c4 c5 c6 c7 c8 c9 : ByteArray) (c10 c11 c12 c13 c14 c15 c16 : Int) (c17 : Bool) (c18 : Int) (c19 : ByteArray) (hb : bdC c0 c1 c2 c3 c10 c11 c12 c13 c14 c15 c16 c18) : ∃ (s : ByteArray) (e : Int), FOk Try.prog 15 [.agg (clC0 c0 c1 c2 c3 c4 c5 c6 c7 c8 c9 c10 c11 c12 c13 c14 c15 c16 c17 c18 c19)] [] (.tuple [.str s, .int .i64 e]) [] ∧ FOk Try.prog 16 [.agg (clC0 c0 c1 c2 c3 c4 c5 c6 c7 c8 c9 c10 c11 c12 c13 c14 c15 c16 c17 c18 c19)] [] (.tuple [.str s, .int .i64 e]) [] ∧ ((e = 0 ∧ Is 67 TC s (vsC c0 c1 c2 c3 c4 c5 c6 c7 c8 c9 c10 c11 c12 c13 c14 c15 c16 c17 c18 c19)) ∨ e = 1) := by
  cases h : putAll TC (vsC c0 c1 c2 c3 c4 c5 c6 c7 c8 c9 c10 c11 c12 c13 c14 c15 c16 c17 c18 c19) with
  | none => exact ⟨_, _, putC_no c0 c1 c2 c3 c4 c5 c6 c7 c8 c9 c10 c11 c12 c13 c14 c15 c16 c17 c18 c19 hb h, rputC_no c0 c1 c2 c3 c4 c5 c6 c7 c8 c9 c10 c11 c12 c13 c14 c15 c16 c17 c18 c19 h, .inr rfl⟩
  | some b => exact ⟨_, _, putC_ok c0 c1 c2 c3 c4 c5 c6 c7 c8 c9 c10 c11 c12 c13 c14 c15 c16 c17 c18 c19 hb b h, rputC_ok c0 c1 c2 c3 c4 c5 c6 c7 c8 c9 c10 c11 c12 c13 c14 c15 c16 c17 c18 c19 b h, .inl ⟨rfl, Is.put (allFC c0 c1 c2 c3 c4 c5 c6 c7 c8 c9 c10 c11 c12 c13 c14 c15 c16 c17 c18 c19) h⟩⟩
end Go.L12
end

section
set_option linter.unusedVariables false
set_option linter.unusedSimpArgs false
set_option maxRecDepth 100000
namespace Go.L12
open Go Go.Abs Go.Proofs

theorem shortP (x3 : Int) (x4 x5 x6 x7 x8 x9 : ByteArray) (x10 x11 : Int) : ∃ b, FOk Try.prog 12 [.agg (rQ x3 x4 x5 x6 x7 x8 x9 x10 x11)] [] (.bool b) [] := by
  have key : ∀ b, short_T x3 x4 x5 x6 x7 x8 x9 x10 x11 (fun r σ => r = .bool b ∧ σ = []) → ∃ b, FOk Try.prog 12 [.agg (rQ x3 x4 x5 x6 x7 x8 x9 x10 x11)] [] (.bool b) [] := fun b h => ⟨b, FOk.wp (short_wp x3 x4 x5 x6 x7 x8 x9 x10 x11 h)⟩
  cases h4 : litB x4 with
  | false => exact key false ⟨fun c => (by rw [h4] at c; cases c), fun _ => ⟨rfl, rfl⟩⟩
  | true =>
  cases h5 : litB x5 with
  | false => exact key false ⟨fun _ => ⟨fun c => (by rw [h5] at c; cases c), fun _ => ⟨rfl, rfl⟩⟩, fun c => (by rw [h4] at c; cases c)⟩
  | true =>
  cases h6 : litB x6 with
  | false => exact key false ⟨fun _ => ⟨fun _ => ⟨fun c => (by rw [h6] at c; cases c), fun _ => ⟨rfl, rfl⟩⟩, fun c => (by rw [h5] at c; cases c)⟩, fun c => (by rw [h4] at c; cases c)⟩
  | true =>
  cases h7 : litB x7 with
  | false => exact key false ⟨fun _ => ⟨fun _ => ⟨fun _ => ⟨fun c => (by rw [h7] at c; cases c), fun _ => ⟨rfl, rfl⟩⟩, fun c => (by rw [h6] at c; cases c)⟩, fun c => (by rw [h5] at c; cases c)⟩, fun c => (by rw [h4] at c; cases c)⟩
  | true =>
  cases h8 : litB x8 with
  | false => exact key false ⟨fun _ => ⟨fun _ => ⟨fun _ => ⟨fun _ => ⟨fun c => (by rw [h8] at c; cases c), fun _ => ⟨rfl, rfl⟩⟩, fun c => (by rw [h7] at c; cases c)⟩, fun c => (by rw [h6] at c; cases c)⟩, fun c => (by rw [h5] at c; cases c)⟩, fun c => (by rw [h4] at c; cases c)⟩
  | true => exact key (litB x9) ⟨fun _ => ⟨fun _ => ⟨fun _ => ⟨fun _ => ⟨fun _ => ⟨rfl, rfl⟩, fun c => (by rw [h8] at c; cases c)⟩, fun c => (by rw [h7] at c; cases c)⟩, fun c => (by rw [h6] at c; cases c)⟩, fun c => (by rw [h5] at c; cases c)⟩, fun c => (by rw [h4] at c; cases c)⟩
theorem pI_lt {n : Int} (h0 : 0 ≤ n) (h : n < 128) : pI n = some [UInt8.ofNat n.toNat] := by
  unfold pI
  rw [if_pos (show nOk n = true from decide_eq_true (by omega)), vbl_lt (by omega)]
theorem pS_lt {s : ByteArray} (h : s.size < 128) : pS s = some (UInt8.ofNat s.size :: lB s) := by
  unfold pS
  rw [if_pos (by omega), vbl_lt h]
  rfl
theorem awakeP : FOk Try.prog 14 [] [] (.bool true) [] := by
  have q : putAll TQ (vsQ 5 1 6 ⟨#[119]⟩ ⟨#[]⟩ ⟨#[]⟩ ⟨#[]⟩ ⟨#[]⟩ ⟨#[]⟩ 0 0) = some [5, 1, 6, 1, 119, 0, 0, 0, 0, 0, 0, 0] := by
    rw [osQ, pI_lt (by omega) (by omega), pI_lt (by omega) (by omega), pI_lt (by omega) (by omega), pI_lt (by omega) (by omega), pS_lt (by decide), pS_lt (by decide)]
    rfl
  have hq := putQ_ok 5 1 6 ⟨#[119]⟩ ⟨#[]⟩ ⟨#[]⟩ ⟨#[]⟩ ⟨#[]⟩ ⟨#[]⟩ 0 0 (by unfold bdQ; omega) _ q
  obtain ⟨b, hb⟩ : ∃ b, putAll TC (vsC 9 0 0 0 ⟨#[]⟩ ⟨#[]⟩ ⟨#[]⟩ ⟨#[]⟩ ⟨#[]⟩ ⟨#[]⟩ 0 0 0 0 3 0 0 false 0 ⟨#[]⟩) = some b := by
    rw [osC, pI_lt (n := 9) (by omega) (by omega), pI_lt (n := 0) (by omega) (by omega), pI_lt (n := 3) (by omega) (by omega), pS_lt (by decide)]
    exact ⟨_, rfl⟩
  have hc := putC_ok 9 0 0 0 ⟨#[]⟩ ⟨#[]⟩ ⟨#[]⟩ ⟨#[]⟩ ⟨#[]⟩ ⟨#[]⟩ 0 0 0 0 3 0 0 false 0 ⟨#[]⟩ (by unfold bdC; omega) b hb
  have hf := fromC_is 9 0 0 0 ⟨#[]⟩ ⟨#[]⟩ ⟨#[]⟩ ⟨#[]⟩ ⟨#[]⟩ ⟨#[]⟩ 0 0 0 0 3 0 0 false 0 ⟨#[]⟩ (Is.put (c := 67) (allFC _ _ _ _ _ _ _ _ _ _ _ _ _ _ _ _ _ _ _ _) hb)
  refine FOk.wp (awake_wp (bS (67 :: b)) ⟨#[]⟩ 0 0 0 ?_)
  unfold awake_T
  exact ⟨hq, hc, hf, rfl, rfl⟩
end Go.L12
end

section
set_option linter.unusedVariables false
set_option linter.unusedSimpArgs false
set_option maxRecDepth 100000
namespace Go.L12
open Go Go.Abs Go.Proofs

theorem eqT {a b : ByteArray} : (a.toList == b.toList) = true ↔ a = b := by
  rw [toList_lB, toList_lB, beq_iff_eq]
  exact ⟨lB_inj, fun h => by rw [h]⟩
theorem apart_law (x0 x1 x2 x3 : Int) (x4 x5 x6 x7 x8 x9 : ByteArray) (x10 x11 x12 x13 x14 x15 x16 : Int) (x17 : Bool) (x18 : Int) (x19 : ByteArray) (y0 y1 y2 y3 : Int) (y4 y5 y6 y7 y8 y9 : ByteArray) (y10 y11 y12 y13 y14 y15 y16 : Int) (y17 : Bool) (y18 : Int) (y19 : ByteArray) (hx : bdC x0 x1 x2 x3 x10 x11 x12 x13 x14 x15 x16 x18) (hy : bdC y0 y1 y2 y3 y10 y11 y12 y13 y14 y15 y16 y18) : FOk Try.prog 6 [.agg (clC0 x0 x1 x2 x3 x4 x5 x6 x7 x8 x9 x10 x11 x12 x13 x14 x15 x16 x17 x18 x19), .agg (clC0 y0 y1 y2 y3 y4 y5 y6 y7 y8 y9 y10 y11 y12 y13 y14 y15 y16 y17 y18 y19)] [] (.bool true) [] := by
  obtain ⟨b1, h1⟩ := shortP x3 x4 x5 x6 x7 x8 x9 x10 x11
  obtain ⟨b2, h2⟩ := shortP y3 y4 y5 y6 y7 y8 y9 y10 y11
  obtain ⟨s, e, p1, _, hi⟩ := put_any x0 x1 x2 x3 x4 x5 x6 x7 x8 x9 x10 x11 x12 x13 x14 x15 x16 x17 x18 x19 hx
  obtain ⟨t, f, q1, _, hj⟩ := put_any y0 y1 y2 y3 y4 y5 y6 y7 y8 y9 y10 y11 y12 y13 y14 y15 y16 y17 y18 y19 hy
  refine FOk.wp (capart_wp x0 x1 x2 x3 x4 x5 x6 x7 x8 x9 x10 x11 x12 x13 x14 x15 x16 x17 x18 x19 y0 y1 y2 y3 y4 y5 y6 y7 y8 y9 y10 y11 y12 y13 y14 y15 y16 y17 y18 y19 s t e f b1 b2 (litB x19) (litB y19) ?_)
  unfold capart_T
  refine ⟨h1, fun _ => ⟨awakeP, rfl, rfl⟩, fun _ => ⟨h2, fun _ => ⟨awakeP, rfl, rfl⟩, fun _ => ⟨lightP x19, fun _ => ⟨awakeP, rfl, rfl⟩, fun _ => ⟨lightP y19, fun _ => ⟨awakeP, rfl, rfl⟩, fun _ => ⟨p1, q1, fun _ => ⟨awakeP, rfl, rfl⟩, fun ce => ⟨fun _ => ⟨awakeP, rfl, rfl⟩, fun cf => ⟨fun _ => ⟨awakeP, rfl, rfl⟩, fun c => ?_⟩⟩⟩⟩⟩⟩⟩
  exfalso
  rcases hi with ⟨rfl, hi⟩ | rfl
  · rcases hj with ⟨rfl, hj⟩ | rfl
    · by_cases hst : s = t
      · subst hst
        have hv := hi.same hj
        unfold vsC at hv
        simp only [List.cons.injEq, AVal.int.injEq, AVal.str.injEq, AVal.bool.injEq, true_and, and_true] at hv
        obtain ⟨rfl, rfl, rfl, rfl, rfl, rfl, rfl, rfl, rfl, rfl, rfl, rfl, rfl, rfl, rfl, rfl, rfl, rfl, rfl, rfl⟩ := hv
        simp at c
      · have hs : (s.toList == t.toList) = false := by rw [Bool.eq_false_iff]; exact fun h => hst (eqT.1 h)
        rw [hs] at c
        simp only [beq_eq_false_iff_ne, ne_eq, Bool.false_eq, Bool.not_eq_false] at c
        simp only [Bool.and_eq_true, beq_iff_eq, and_true] at c
        have tl : ∀ {a b : ByteArray}, a.toList = b.toList → a = b := fun h => lB_inj (by rw [← toList_lB, ← toList_lB]; exact h)
        obtain ⟨r0, ⟨r1, r2⟩, ⟨r3, r4, r5, r6, r7, r8, r9, r10, r11⟩, r12, r13, r14, r15, r16, r17, r18, r19⟩ := c
        have r4 := tl r4
        have r5 := tl r5
        have r6 := tl r6
        have r7 := tl r7
        have r8 := tl r8
        have r9 := tl r9
        have r19 := tl r19
        subst r0 r1 r2 r3 r4 r5 r6 r7 r8 r9 r10 r11 r12 r13 r14 r15 r16 r17 r18 r19
        obtain ⟨_, b, k1, k2⟩ := hi.back
        obtain ⟨_, b', k3, k4⟩ := hj.back
        rw [k1] at k3
        cases k3
        exact hst (k2.trans k4.symm)
    · exact absurd cf (by decide)
  · exact absurd ce (by decide)
end Go.L12
end

section
set_option linter.unusedVariables false
set_option linter.unusedSimpArgs false
set_option maxRecDepth 100000
namespace Go.L12
open Go Go.Abs Go.Proofs
theorem i64_wf {m : Int} (h : (Lit.int IntKind.i64 m).wf) : -9223372036854775808 ≤ m ∧ m < 9223372036854775808 := by
  simp [Lit.wf, IntKind.min, IntKind.signed, IntKind.bits] at h
  omega
theorem cmd_arg {t : TypeId} (ht : isAggT Try.prog t = true) {a : AVal} (h : okArg Try.prog t [.int .i64, .int .i64, .int .i64, .int .i64, .str, .str, .str, .str, .str, .str, .int .i64, .int .i64, .int .i64, .int .i64, .int .i64, .int .i64, .int .i64, .bool, .int .i64, .str] a) : ∃ (x0 x1 x2 x3 : Int) (x4 x5 x6 x7 x8 x9 : ByteArray) (x10 x11 x12 x13 x14 x15 x16 : Int) (x17 : Bool) (x18 : Int) (x19 : ByteArray), a = .agg (clC0 x0 x1 x2 x3 x4 x5 x6 x7 x8 x9 x10 x11 x12 x13 x14 x15 x16 x17 x18 x19) ∧ bdC x0 x1 x2 x3 x10 x11 x12 x13 x14 x15 x16 x18 := by
  unfold okArg at h
  rw [if_pos ht] at h
  obtain ⟨cs, rfl, h⟩ := h
  simp only [okKs, okK] at h
  obtain ⟨v, us, rfl, hv, h⟩ := h
  obtain ⟨x0, rfl, h0⟩ := hv
  obtain ⟨v, us, rfl, hv, h⟩ := h
  obtain ⟨x1, rfl, h1⟩ := hv
  obtain ⟨v, us, rfl, hv, h⟩ := h
  obtain ⟨x2, rfl, h2⟩ := hv
  obtain ⟨v, us, rfl, hv, h⟩ := h
  obtain ⟨x3, rfl, h3⟩ := hv
  obtain ⟨v, us, rfl, hv, h⟩ := h
  obtain ⟨x4, rfl, _⟩ := hv
  obtain ⟨v, us, rfl, hv, h⟩ := h
  obtain ⟨x5, rfl, _⟩ := hv
  obtain ⟨v, us, rfl, hv, h⟩ := h
  obtain ⟨x6, rfl, _⟩ := hv
  obtain ⟨v, us, rfl, hv, h⟩ := h
  obtain ⟨x7, rfl, _⟩ := hv
  obtain ⟨v, us, rfl, hv, h⟩ := h
  obtain ⟨x8, rfl, _⟩ := hv
  obtain ⟨v, us, rfl, hv, h⟩ := h
  obtain ⟨x9, rfl, _⟩ := hv
  obtain ⟨v, us, rfl, hv, h⟩ := h
  obtain ⟨x10, rfl, h10⟩ := hv
  obtain ⟨v, us, rfl, hv, h⟩ := h
  obtain ⟨x11, rfl, h11⟩ := hv
  obtain ⟨v, us, rfl, hv, h⟩ := h
  obtain ⟨x12, rfl, h12⟩ := hv
  obtain ⟨v, us, rfl, hv, h⟩ := h
  obtain ⟨x13, rfl, h13⟩ := hv
  obtain ⟨v, us, rfl, hv, h⟩ := h
  obtain ⟨x14, rfl, h14⟩ := hv
  obtain ⟨v, us, rfl, hv, h⟩ := h
  obtain ⟨x15, rfl, h15⟩ := hv
  obtain ⟨v, us, rfl, hv, h⟩ := h
  obtain ⟨x16, rfl, h16⟩ := hv
  obtain ⟨v, us, rfl, hv, h⟩ := h
  obtain ⟨x17, rfl⟩ := hv
  obtain ⟨v, us, rfl, hv, h⟩ := h
  obtain ⟨x18, rfl, h18⟩ := hv
  obtain ⟨v, us, rfl, hv, h⟩ := h
  obtain ⟨x19, rfl, _⟩ := hv
  subst h
  exact ⟨x0, x1, x2, x3, x4, x5, x6, x7, x8, x9, x10, x11, x12, x13, x14, x15, x16, x17, x18, x19, rfl, ⟨i64_wf h0, i64_wf h1, i64_wf h2, i64_wf h3, i64_wf h10, i64_wf h11, i64_wf h12, i64_wf h13, i64_wf h14, i64_wf h15, i64_wf h16, i64_wf h18⟩⟩
end Go.L12
end

section
set_option linter.unusedVariables false
set_option linter.unusedSimpArgs false
set_option maxRecDepth 100000
namespace Go.L12
open Go Go.Abs Go.Proofs
theorem apart_row (xs : List AVal) (h : okArgs Try.prog Try.f6.params.toList [[.int .i64, .int .i64, .int .i64, .int .i64, .str, .str, .str, .str, .str, .str, .int .i64, .int .i64, .int .i64, .int .i64, .int .i64, .int .i64, .int .i64, .bool, .int .i64, .str], [.int .i64, .int .i64, .int .i64, .int .i64, .str, .str, .str, .str, .str, .str, .int .i64, .int .i64, .int .i64, .int .i64, .int .i64, .int .i64, .int .i64, .bool, .int .i64, .str]] xs) : ∃ σ', FOk Try.prog 6 xs [] (.bool true) σ' := by
  obtain ⟨a, bs, rfl, h1, a2, bs2, rfl, h2, h3⟩ := h
  cases h3
  obtain ⟨x0, x1, x2, x3, x4, x5, x6, x7, x8, x9, x10, x11, x12, x13, x14, x15, x16, x17, x18, x19, rfl, hx⟩ := cmd_arg (by kernel_rfl) h1
  obtain ⟨y0, y1, y2, y3, y4, y5, y6, y7, y8, y9, y10, y11, y12, y13, y14, y15, y16, y17, y18, y19, rfl, hy⟩ := cmd_arg (by kernel_rfl) h2
  exact ⟨_, apart_law x0 x1 x2 x3 x4 x5 x6 x7 x8 x9 x10 x11 x12 x13 x14 x15 x16 x17 x18 x19 y0 y1 y2 y3 y4 y5 y6 y7 y8 y9 y10 y11 y12 y13 y14 y15 y16 y17 y18 y19 hx hy⟩
end Go.L12
end

import Derived.Test.YtjkmndfipanalaaL12g1
section
set_option linter.unusedVariables false
set_option maxRecDepth 100000
namespace Go.L12
open Go Go.Abs Go.Proofs

theorem rTQ_1 (u0 u1 : List AVal) (k k2 : Nat) (bs bs2 : List (List AVal))
    (h1 : FOk Try.prog 64 [AVal.ptr 0 2 0 0, AVal.slc false 1 1 0 11 none] [AObj.rows false 2 [[AVal.ptr 0 2 0 0, AVal.slc false 2 1 0 k none]], AObj.rows false 1 (flQ 3 4), AObj.trows 5 true 1 bs, AObj.rows true 2 [u0], AObj.rows true 9 [u1]] (AVal.tuple []) [AObj.rows false 2 [[AVal.ptr 0 2 0 0, AVal.slc false 5 1 0 k2 none]], AObj.rows false 1 (flQ 3 4), AObj.dead, AObj.rows true 2 [u0], AObj.rows true 9 [u1], AObj.trows 5 true 1 bs2]) :
    TripN Try.prog 6 (codeTail (codeTail (bodyOf Try.f53))) (mkR 8 [(0, AVal.ptr 0 2 0 0), (1, AVal.slc false 1 1 0 11 none), (4, AVal.ptr 5 1 0 0)]) ([AObj.rows false 2 [[AVal.ptr 0 2 0 0, AVal.slc false 2 1 0 k none]], AObj.rows false 1 (flQ 3 4), AObj.trows 5 true 1 bs, AObj.rows true 2 [u0], AObj.rows true 9 [u1], AObj.rows true 1 [[iI 0]]]) (AExit.ret) (mkR 8 [(4, AVal.ptr 5 1 0 0)]) ([AObj.rows false 2 [[AVal.ptr 0 2 0 0, AVal.slc false 6 1 0 k2 none]], AObj.rows false 1 (flQ 3 4), AObj.dead, AObj.rows true 2 [u0], AObj.rows true 9 [u1], AObj.rows true 1 [[iI 0]], AObj.trows 5 true 1 bs2]) :=
  evalT (st := St.mk (mkR 8 [(0, AVal.ptr 0 2 0 0), (1, AVal.slc false 1 1 0 11 none), (4, AVal.ptr 5 1 0 0)]) ([AObj.rows false 2 [[AVal.ptr 0 2 0 0, AVal.slc false 2 1 0 k none]], AObj.rows false 1 (flQ 3 4), AObj.trows 5 true 1 bs, AObj.rows true 2 [u0], AObj.rows true 9 [u1], AObj.rows true 1 [[iI 0]]]) ([Dec.use [0, 1, 2, 3, 4] [AVal.ptr 0 2 0 0, AVal.slc false 1 1 0 11 none] [AObj.rows false 2 [[AVal.ptr 0 2 0 0, AVal.slc false 2 1 0 k none]], AObj.rows false 1 (flQ 3 4), AObj.trows 5 true 1 bs, AObj.rows true 2 [u0], AObj.rows true 9 [u1]] (AVal.tuple []) [AObj.rows false 2 [[AVal.ptr 0 2 0 0, AVal.slc false 5 1 0 k2 none]], AObj.rows false 1 (flQ 3 4), AObj.dead, AObj.rows true 2 [u0], AObj.rows true 9 [u1], AObj.trows 5 true 1 bs2]]) []) (st' := St.mk (mkR 8 [(0, AVal.ptr 0 2 0 0), (1, AVal.slc false 1 1 0 11 none), (4, AVal.ptr 5 1 0 0), (5, AVal.ptr 0 2 0 0), (6, AVal.slc false 1 1 0 11 none), (7, AVal.tuple [])]) ([AObj.rows false 2 [[AVal.ptr 0 2 0 0, AVal.slc false 6 1 0 k2 none]], AObj.rows false 1 (flQ 3 4), AObj.dead, AObj.rows true 2 [u0], AObj.rows true 9 [u1], AObj.rows true 1 [[iI 0]], AObj.trows 5 true 1 bs2]) ([]) (tr 2 ++ ((Owed.use (owed Try.prog 6) 64 [0, 1, 2, 3, 4] [AVal.ptr 0 2 0 0, AVal.slc false 1 1 0 11 none] [AObj.rows false 2 [[AVal.ptr 0 2 0 0, AVal.slc false 2 1 0 k none]], AObj.rows false 1 (flQ 3 4), AObj.trows 5 true 1 bs, AObj.rows true 2 [u0], AObj.rows true 9 [u1], AObj.rows true 1 [[iI 0]]] [AVal.ptr 0 2 0 0, AVal.slc false 1 1 0 11 none] [AObj.rows false 2 [[AVal.ptr 0 2 0 0, AVal.slc false 2 1 0 k none]], AObj.rows false 1 (flQ 3 4), AObj.trows 5 true 1 bs, AObj.rows true 2 [u0], AObj.rows true 9 [u1]] (AVal.tuple []) [AObj.rows false 2 [[AVal.ptr 0 2 0 0, AVal.slc false 5 1 0 k2 none]], AObj.rows false 1 (flQ 3 4), AObj.dead, AObj.rows true 2 [u0], AObj.rows true 9 [u1], AObj.trows 5 true 1 bs2]) :: []))) followed (by kernel_rfl) (allP_of (trC 2 ⟨⟨h1, rfl, rfl, rfl⟩, trivial⟩)) (keepM 8 [4]) ([0, 1, 2, 3, 4, 5, 6]) (by kernel_rfl) (by kernel_rfl) (by kernel_rfl)

theorem rFQ_1 (u0 u1 v0 v1 : List AVal) (m s s2 : ByteArray) (b : Bool)
    (h1 : FOk Try.prog 58 [AVal.bool (ByteArray.toList s2 == ByteArray.toList (ByteArray.mk #[]))] [] (AVal.tuple []) [])
    (h2 : FOk Try.prog 60 [AVal.ptr 0 1 0 0, AVal.slc false 1 1 0 11 none] [AObj.rows true 1 [[AVal.str (ByteArray.extract s (Int.toNat (↑(ByteArray.size m) : Int)) (Int.toNat (↑(ByteArray.size s) : Int)))]], AObj.rows false 1 (flQ 2 3), AObj.rows true 2 [u0], AObj.rows true 9 [u1]] (AVal.tuple []) [AObj.rows true 1 [[AVal.str s2]], AObj.rows false 1 (flQ 2 3), AObj.rows true 2 [v0], AObj.rows true 9 [v1]])
    (h3 : decide (0 ≤ (↑(ByteArray.size m) : Int) ∧ (↑(ByteArray.size m) : Int) ≤ (↑(ByteArray.size s) : Int) ∧ (↑(ByteArray.size s) : Int) ≤ (↑(ByteArray.size s) : Int)) = true)
    (h4 : FOk Try.prog 58 [AVal.bool true] [] (AVal.tuple []) [])
    (h5 : FOk Try.prog 59 [AVal.str s, AVal.str m] [] (AVal.bool true) []) :
    TripN Try.prog 5 (codeTail (codeTail (bodyOf Try.f40))) (mkR 20 [(1, AVal.str m), (2, AVal.slc false 0 1 0 11 none), (3, AVal.ptr 3 1 0 0), (6, AVal.ptr 4 1 0 0)]) ([AObj.rows false 1 (flQ 1 2), AObj.rows true 2 [u0], AObj.rows true 9 [u1], AObj.rows true 1 [[AVal.str s]], AObj.rows true 1 [[iI 0]]]) (AExit.ret) (mkR 20 [(6, AVal.ptr 4 1 0 0)]) ([AObj.rows false 1 (flQ 1 2), AObj.rows true 2 [v0], AObj.rows true 9 [v1], AObj.rows true 1 [[AVal.str s2]], AObj.rows true 1 [[iI 0]]]) :=
  evalT (st := St.mk (mkR 20 [(1, AVal.str m), (2, AVal.slc false 0 1 0 11 none), (3, AVal.ptr 3 1 0 0), (6, AVal.ptr 4 1 0 0)]) ([AObj.rows false 1 (flQ 1 2), AObj.rows true 2 [u0], AObj.rows true 9 [u1], AObj.rows true 1 [[AVal.str s]], AObj.rows true 1 [[iI 0]]]) ([Dec.use [] [AVal.str s, AVal.str m] [] (AVal.bool true) [], Dec.use [] [AVal.bool true] [] (AVal.tuple []) [], Dec.use [3, 0, 1, 2] [AVal.ptr 0 1 0 0, AVal.slc false 1 1 0 11 none] [AObj.rows true 1 [[AVal.str (ByteArray.extract s (Int.toNat (↑(ByteArray.size m) : Int)) (Int.toNat (↑(ByteArray.size s) : Int)))]], AObj.rows false 1 (flQ 2 3), AObj.rows true 2 [u0], AObj.rows true 9 [u1]] (AVal.tuple []) [AObj.rows true 1 [[AVal.str s2]], AObj.rows false 1 (flQ 2 3), AObj.rows true 2 [v0], AObj.rows true 9 [v1]], Dec.use [] [AVal.bool (ByteArray.toList s2 == ByteArray.toList (ByteArray.mk #[]))] [] (AVal.tuple []) []]) []) (st' := St.mk (mkR 20 [(1, AVal.str m), (2, AVal.slc false 0 1 0 11 none), (3, AVal.ptr 3 1 0 0), (6, AVal.ptr 4 1 0 0), (7, AVal.str s), (8, AVal.str m), (9, AVal.bool true), (10, AVal.tuple []), (11, AVal.str s), (12, AVal.str m), (13, iI (↑(ByteArray.size m) : Int)), (14, AVal.str (ByteArray.extract s (Int.toNat (↑(ByteArray.size m) : Int)) (Int.toNat (↑(ByteArray.size s) : Int)))), (15, AVal.slc false 0 1 0 11 none), (16, AVal.tuple []), (17, AVal.str s2), (18, AVal.bool (ByteArray.toList s2 == ByteArray.toList (ByteArray.mk #[]))), (19, AVal.tuple [])]) ([AObj.rows false 1 (flQ 1 2), AObj.rows true 2 [v0], AObj.rows true 9 [v1], AObj.rows true 1 [[AVal.str s2]], AObj.rows true 1 [[iI 0]]]) ([]) (tr 2 ++ ((Owed.use (owed Try.prog 5) 58 [] [AVal.bool (ByteArray.toList s2 == ByteArray.toList (ByteArray.mk #[]))] [AObj.rows false 1 (flQ 1 2), AObj.rows true 2 [v0], AObj.rows true 9 [v1], AObj.rows true 1 [[AVal.str s2]], AObj.rows true 1 [[iI 0]]] [AVal.bool (ByteArray.toList s2 == ByteArray.toList (ByteArray.mk #[]))] [] (AVal.tuple []) []) :: (tr 3 ++ ((Owed.use (owed Try.prog 5) 60 [3, 0, 1, 2] [AVal.ptr 3 1 0 0, AVal.slc false 0 1 0 11 none] [AObj.rows false 1 (flQ 1 2), AObj.rows true 2 [u0], AObj.rows true 9 [u1], AObj.rows true 1 [[AVal.str (ByteArray.extract s (Int.toNat (↑(ByteArray.size m) : Int)) (Int.toNat (↑(ByteArray.size s) : Int)))]], AObj.rows true 1 [[iI 0]]] [AVal.ptr 0 1 0 0, AVal.slc false 1 1 0 11 none] [AObj.rows true 1 [[AVal.str (ByteArray.extract s (Int.toNat (↑(ByteArray.size m) : Int)) (Int.toNat (↑(ByteArray.size s) : Int)))]], AObj.rows false 1 (flQ 2 3), AObj.rows true 2 [u0], AObj.rows true 9 [u1]] (AVal.tuple []) [AObj.rows true 1 [[AVal.str s2]], AObj.rows false 1 (flQ 2 3), AObj.rows true 2 [v0], AObj.rows true 9 [v1]]) :: (tr 2 ++ ((decide (0 ≤ (↑(ByteArray.size m) : Int) ∧ (↑(ByteArray.size m) : Int) ≤ (↑(ByteArray.size s) : Int) ∧ (↑(ByteArray.size s) : Int) ≤ (↑(ByteArray.size s) : Int)) = true) :: (tr 3 ++ ((Owed.use (owed Try.prog 5) 58 [] [AVal.bool true] [AObj.rows false 1 (flQ 1 2), AObj.rows true 2 [u0], AObj.rows true 9 [u1], AObj.rows true 1 [[AVal.str s]], AObj.rows true 1 [[iI 0]]] [AVal.bool true] [] (AVal.tuple []) []) :: ((Owed.use (owed Try.prog 5) 59 [] [AVal.str s, AVal.str m] [AObj.rows false 1 (flQ 1 2), AObj.rows true 2 [u0], AObj.rows true 9 [u1], AObj.rows true 1 [[AVal.str s]], AObj.rows true 1 [[iI 0]]] [AVal.str s, AVal.str m] [] (AVal.bool true) []) :: (tr 3 ++ []))))))))))) followed (by kernel_rfl) (allP_of (trC 2 ⟨⟨h1, rfl, rfl, rfl⟩, (trC 3 ⟨⟨h2, rfl, rfl, rfl⟩, (trC 2 ⟨h3, (trC 3 ⟨⟨h4, rfl, rfl, rfl⟩, ⟨⟨h5, rfl, rfl, rfl⟩, (trC 3 trivial)⟩⟩)⟩)⟩)⟩)) (keepM 20 [6]) ([0, 1, 2, 3, 4]) (by kernel_rfl) (by kernel_rfl) (by kernel_rfl)

theorem rFeQ_1 (u0 u1 v0 v1 : List AVal) (m s s2 : ByteArray) (b : Bool)
    (h1 : FOk Try.prog 58 [AVal.bool (ByteArray.toList s2 == ByteArray.toList (ByteArray.mk #[]))] [] (AVal.pan 117) [])
    (h2 : FOk Try.prog 60 [AVal.ptr 0 1 0 0, AVal.slc false 1 1 0 11 none] [AObj.rows true 1 [[AVal.str (ByteArray.extract s (Int.toNat (↑(ByteArray.size m) : Int)) (Int.toNat (↑(ByteArray.size s) : Int)))]], AObj.rows false 1 (flQ 2 3), AObj.rows true 2 [u0], AObj.rows true 9 [u1]] (AVal.tuple []) [AObj.rows true 1 [[AVal.str s2]], AObj.rows false 1 (flQ 2 3), AObj.rows true 2 [v0], AObj.rows true 9 [v1]])
    (h3 : decide (0 ≤ (↑(ByteArray.size m) : Int) ∧ (↑(ByteArray.size m) : Int) ≤ (↑(ByteArray.size s) : Int) ∧ (↑(ByteArray.size s) : Int) ≤ (↑(ByteArray.size s) : Int)) = true)
    (h4 : FOk Try.prog 58 [AVal.bool true] [] (AVal.tuple []) [])
    (h5 : FOk Try.prog 59 [AVal.str s, AVal.str m] [] (AVal.bool true) []) :
    TripN Try.prog 5 (codeTail (codeTail (bodyOf Try.f40))) (mkR 20 [(1, AVal.str m), (2, AVal.slc false 0 1 0 11 none), (3, AVal.ptr 3 1 0 0), (6, AVal.ptr 4 1 0 0)]) ([AObj.rows false 1 (flQ 1 2), AObj.rows true 2 [u0], AObj.rows true 9 [u1], AObj.rows true 1 [[AVal.str s]], AObj.rows true 1 [[iI 0]]]) (AExit.pan 117) (mkR 20 [(6, AVal.ptr 4 1 0 0)]) ([AObj.rows false 1 (flQ 1 2), AObj.rows true 2 [v0], AObj.rows true 9 [v1], AObj.rows true 1 [[AVal.str s2]], AObj.rows true 1 [[iI 0]]]) :=
  evalT (st := St.mk (mkR 20 [(1, AVal.str m), (2, AVal.slc false 0 1 0 11 none), (3, AVal.ptr 3 1 0 0), (6, AVal.ptr 4 1 0 0)]) ([AObj.rows false 1 (flQ 1 2), AObj.rows true 2 [u0], AObj.rows true 9 [u1], AObj.rows true 1 [[AVal.str s]], AObj.rows true 1 [[iI 0]]]) ([Dec.use [] [AVal.str s, AVal.str m] [] (AVal.bool true) [], Dec.use [] [AVal.bool true] [] (AVal.tuple []) [], Dec.use [3, 0, 1, 2] [AVal.ptr 0 1 0 0, AVal.slc false 1 1 0 11 none] [AObj.rows true 1 [[AVal.str (ByteArray.extract s (Int.toNat (↑(ByteArray.size m) : Int)) (Int.toNat (↑(ByteArray.size s) : Int)))]], AObj.rows false 1 (flQ 2 3), AObj.rows true 2 [u0], AObj.rows true 9 [u1]] (AVal.tuple []) [AObj.rows true 1 [[AVal.str s2]], AObj.rows false 1 (flQ 2 3), AObj.rows true 2 [v0], AObj.rows true 9 [v1]], Dec.use [] [AVal.bool (ByteArray.toList s2 == ByteArray.toList (ByteArray.mk #[]))] [] (AVal.pan 117) []]) []) (st' := St.mk (mkR 20 [(1, AVal.str m), (2, AVal.slc false 0 1 0 11 none), (3, AVal.ptr 3 1 0 0), (6, AVal.ptr 4 1 0 0), (7, AVal.str s), (8, AVal.str m), (9, AVal.bool true), (10, AVal.tuple []), (11, AVal.str s), (12, AVal.str m), (13, iI (↑(ByteArray.size m) : Int)), (14, AVal.str (ByteArray.extract s (Int.toNat (↑(ByteArray.size m) : Int)) (Int.toNat (↑(ByteArray.size s) : Int)))), (15, AVal.slc false 0 1 0 11 none), (16, AVal.tuple []), (17, AVal.str s2), (18, AVal.bool (ByteArray.toList s2 == ByteArray.toList (ByteArray.mk #[])))]) ([AObj.rows false 1 (flQ 1 2), AObj.rows true 2 [v0], AObj.rows true 9 [v1], AObj.rows true 1 [[AVal.str s2]], AObj.rows true 1 [[iI 0]]]) ([]) ((Owed.use (owed Try.prog 5) 58 [] [AVal.bool (ByteArray.toList s2 == ByteArray.toList (ByteArray.mk #[]))] [AObj.rows false 1 (flQ 1 2), AObj.rows true 2 [v0], AObj.rows true 9 [v1], AObj.rows true 1 [[AVal.str s2]], AObj.rows true 1 [[iI 0]]] [AVal.bool (ByteArray.toList s2 == ByteArray.toList (ByteArray.mk #[]))] [] (AVal.pan 117) []) :: (tr 3 ++ ((Owed.use (owed Try.prog 5) 60 [3, 0, 1, 2] [AVal.ptr 3 1 0 0, AVal.slc false 0 1 0 11 none] [AObj.rows false 1 (flQ 1 2), AObj.rows true 2 [u0], AObj.rows true 9 [u1], AObj.rows true 1 [[AVal.str (ByteArray.extract s (Int.toNat (↑(ByteArray.size m) : Int)) (Int.toNat (↑(ByteArray.size s) : Int)))]], AObj.rows true 1 [[iI 0]]] [AVal.ptr 0 1 0 0, AVal.slc false 1 1 0 11 none] [AObj.rows true 1 [[AVal.str (ByteArray.extract s (Int.toNat (↑(ByteArray.size m) : Int)) (Int.toNat (↑(ByteArray.size s) : Int)))]], AObj.rows false 1 (flQ 2 3), AObj.rows true 2 [u0], AObj.rows true 9 [u1]] (AVal.tuple []) [AObj.rows true 1 [[AVal.str s2]], AObj.rows false 1 (flQ 2 3), AObj.rows true 2 [v0], AObj.rows true 9 [v1]]) :: (tr 2 ++ ((decide (0 ≤ (↑(ByteArray.size m) : Int) ∧ (↑(ByteArray.size m) : Int) ≤ (↑(ByteArray.size s) : Int) ∧ (↑(ByteArray.size s) : Int) ≤ (↑(ByteArray.size s) : Int)) = true) :: (tr 3 ++ ((Owed.use (owed Try.prog 5) 58 [] [AVal.bool true] [AObj.rows false 1 (flQ 1 2), AObj.rows true 2 [u0], AObj.rows true 9 [u1], AObj.rows true 1 [[AVal.str s]], AObj.rows true 1 [[iI 0]]] [AVal.bool true] [] (AVal.tuple []) []) :: ((Owed.use (owed Try.prog 5) 59 [] [AVal.str s, AVal.str m] [AObj.rows false 1 (flQ 1 2), AObj.rows true 2 [u0], AObj.rows true 9 [u1], AObj.rows true 1 [[AVal.str s]], AObj.rows true 1 [[iI 0]]] [AVal.str s, AVal.str m] [] (AVal.bool true) []) :: (tr 3 ++ [])))))))))) followed (by kernel_rfl) (allP_of ⟨⟨h1, rfl, rfl, rfl⟩, (trC 3 ⟨⟨h2, rfl, rfl, rfl⟩, (trC 2 ⟨h3, (trC 3 ⟨⟨h4, rfl, rfl, rfl⟩, ⟨⟨h5, rfl, rfl, rfl⟩, (trC 3 trivial)⟩⟩)⟩)⟩)⟩) (keepM 20 [6]) ([0, 1, 2, 3, 4]) (by kernel_rfl) (by kernel_rfl) (by kernel_rfl)

theorem rFnQ_1 (u0 u1 : List AVal) (m s : ByteArray)
    (h1 : FOk Try.prog 60 [AVal.ptr 0 1 0 0, AVal.slc false 1 1 0 11 none] [AObj.rows true 1 [[AVal.str (ByteArray.extract s (Int.toNat (↑(ByteArray.size m) : Int)) (Int.toNat (↑(ByteArray.size s) : Int)))]], AObj.rows false 1 (flQ 2 3), AObj.rows true 2 [u0], AObj.rows true 9 [u1]] (AVal.pan 117) [AObj.dead, AObj.dead, AObj.dead, AObj.dead])
    (h2 : decide (0 ≤ (↑(ByteArray.size m) : Int) ∧ (↑(ByteArray.size m) : Int) ≤ (↑(ByteArray.size s) : Int) ∧ (↑(ByteArray.size s) : Int) ≤ (↑(ByteArray.size s) : Int)) = true)
    (h3 : FOk Try.prog 58 [AVal.bool true] [] (AVal.tuple []) [])
    (h4 : FOk Try.prog 59 [AVal.str s, AVal.str m] [] (AVal.bool true) []) :
    TripN Try.prog 5 (codeTail (codeTail (bodyOf Try.f40))) (mkR 20 [(1, AVal.str m), (2, AVal.slc false 0 1 0 11 none), (3, AVal.ptr 3 1 0 0), (6, AVal.ptr 4 1 0 0)]) ([AObj.rows false 1 (flQ 1 2), AObj.rows true 2 [u0], AObj.rows true 9 [u1], AObj.rows true 1 [[AVal.str s]], AObj.rows true 1 [[iI 0]]]) (AExit.pan 117) (mkR 20 [(6, AVal.ptr 4 1 0 0)]) ([AObj.dead, AObj.dead, AObj.dead, AObj.dead, AObj.rows true 1 [[iI 0]]]) :=
  evalT (st := St.mk (mkR 20 [(1, AVal.str m), (2, AVal.slc false 0 1 0 11 none), (3, AVal.ptr 3 1 0 0), (6, AVal.ptr 4 1 0 0)]) ([AObj.rows false 1 (flQ 1 2), AObj.rows true 2 [u0], AObj.rows true 9 [u1], AObj.rows true 1 [[AVal.str s]], AObj.rows true 1 [[iI 0]]]) ([Dec.use [] [AVal.str s, AVal.str m] [] (AVal.bool true) [], Dec.use [] [AVal.bool true] [] (AVal.tuple []) [], Dec.use [3, 0, 1, 2] [AVal.ptr 0 1 0 0, AVal.slc false 1 1 0 11 none] [AObj.rows true 1 [[AVal.str (ByteArray.extract s (Int.toNat (↑(ByteArray.size m) : Int)) (Int.toNat (↑(ByteArray.size s) : Int)))]], AObj.rows false 1 (flQ 2 3), AObj.rows true 2 [u0], AObj.rows true 9 [u1]] (AVal.pan 117) [AObj.dead, AObj.dead, AObj.dead, AObj.dead]]) []) (st' := St.mk (mkR 20 [(1, AVal.str m), (2, AVal.slc false 0 1 0 11 none), (3, AVal.ptr 3 1 0 0), (6, AVal.ptr 4 1 0 0), (7, AVal.str s), (8, AVal.str m), (9, AVal.bool true), (10, AVal.tuple []), (11, AVal.str s), (12, AVal.str m), (13, iI (↑(ByteArray.size m) : Int)), (14, AVal.str (ByteArray.extract s (Int.toNat (↑(ByteArray.size m) : Int)) (Int.toNat (↑(ByteArray.size s) : Int)))), (15, AVal.slc false 0 1 0 11 none)]) ([AObj.dead, AObj.dead, AObj.dead, AObj.dead, AObj.rows true 1 [[iI 0]]]) ([]) ((Owed.use (owed Try.prog 5) 60 [3, 0, 1, 2] [AVal.ptr 3 1 0 0, AVal.slc false 0 1 0 11 none] [AObj.rows false 1 (flQ 1 2), AObj.rows true 2 [u0], AObj.rows true 9 [u1], AObj.rows true 1 [[AVal.str (ByteArray.extract s (Int.toNat (↑(ByteArray.size m) : Int)) (Int.toNat (↑(ByteArray.size s) : Int)))]], AObj.rows true 1 [[iI 0]]] [AVal.ptr 0 1 0 0, AVal.slc false 1 1 0 11 none] [AObj.rows true 1 [[AVal.str (ByteArray.extract s (Int.toNat (↑(ByteArray.size m) : Int)) (Int.toNat (↑(ByteArray.size s) : Int)))]], AObj.rows false 1 (flQ 2 3), AObj.rows true 2 [u0], AObj.rows true 9 [u1]] (AVal.pan 117) [AObj.dead, AObj.dead, AObj.dead, AObj.dead]) :: (tr 2 ++ ((decide (0 ≤ (↑(ByteArray.size m) : Int) ∧ (↑(ByteArray.size m) : Int) ≤ (↑(ByteArray.size s) : Int) ∧ (↑(ByteArray.size s) : Int) ≤ (↑(ByteArray.size s) : Int)) = true) :: (tr 3 ++ ((Owed.use (owed Try.prog 5) 58 [] [AVal.bool true] [AObj.rows false 1 (flQ 1 2), AObj.rows true 2 [u0], AObj.rows true 9 [u1], AObj.rows true 1 [[AVal.str s]], AObj.rows true 1 [[iI 0]]] [AVal.bool true] [] (AVal.tuple []) []) :: ((Owed.use (owed Try.prog 5) 59 [] [AVal.str s, AVal.str m] [AObj.rows false 1 (flQ 1 2), AObj.rows true 2 [u0], AObj.rows true 9 [u1], AObj.rows true 1 [[AVal.str s]], AObj.rows true 1 [[iI 0]]] [AVal.str s, AVal.str m] [] (AVal.bool true) []) :: (tr 3 ++ [])))))))) followed (by kernel_rfl) (allP_of ⟨⟨h1, rfl, rfl, rfl⟩, (trC 2 ⟨h2, (trC 3 ⟨⟨h3, rfl, rfl, rfl⟩, ⟨⟨h4, rfl, rfl, rfl⟩, (trC 3 trivial)⟩⟩)⟩)⟩) (keepM 20 [6]) ([0, 1, 2, 3, 4]) (by kernel_rfl) (by kernel_rfl) (by kernel_rfl)

theorem rFpQ_1 (u0 u1 : List AVal) (m s : ByteArray)
    (h1 : FOk Try.prog 58 [AVal.bool false] [] (AVal.pan 117) [])
    (h2 : FOk Try.prog 59 [AVal.str s, AVal.str m] [] (AVal.bool false) []) :
    TripN Try.prog 5 (codeTail (codeTail (bodyOf Try.f40))) (mkR 20 [(1, AVal.str m), (2, AVal.slc false 0 1 0 11 none), (3, AVal.ptr 3 1 0 0), (6, AVal.ptr 4 1 0 0)]) ([AObj.rows false 1 (flQ 1 2), AObj.rows true 2 [u0], AObj.rows true 9 [u1], AObj.rows true 1 [[AVal.str s]], AObj.rows true 1 [[iI 0]]]) (AExit.pan 117) (mkR 20 [(6, AVal.ptr 4 1 0 0)]) ([AObj.rows false 1 (flQ 1 2), AObj.rows true 2 [u0], AObj.rows true 9 [u1], AObj.rows true 1 [[AVal.str s]], AObj.rows true 1 [[iI 0]]]) :=
  evalT (st := St.mk (mkR 20 [(1, AVal.str m), (2, AVal.slc false 0 1 0 11 none), (3, AVal.ptr 3 1 0 0), (6, AVal.ptr 4 1 0 0)]) ([AObj.rows false 1 (flQ 1 2), AObj.rows true 2 [u0], AObj.rows true 9 [u1], AObj.rows true 1 [[AVal.str s]], AObj.rows true 1 [[iI 0]]]) ([Dec.use [] [AVal.str s, AVal.str m] [] (AVal.bool false) [], Dec.use [] [AVal.bool false] [] (AVal.pan 117) []]) []) (st' := St.mk (mkR 20 [(1, AVal.str m), (2, AVal.slc false 0 1 0 11 none), (3, AVal.ptr 3 1 0 0), (6, AVal.ptr 4 1 0 0), (7, AVal.str s), (8, AVal.str m), (9, AVal.bool false)]) ([AObj.rows false 1 (flQ 1 2), AObj.rows true 2 [u0], AObj.rows true 9 [u1], AObj.rows true 1 [[AVal.str s]], AObj.rows true 1 [[iI 0]]]) ([]) ((Owed.use (owed Try.prog 5) 58 [] [AVal.bool false] [AObj.rows false 1 (flQ 1 2), AObj.rows true 2 [u0], AObj.rows true 9 [u1], AObj.rows true 1 [[AVal.str s]], AObj.rows true 1 [[iI 0]]] [AVal.bool false] [] (AVal.pan 117) []) :: ((Owed.use (owed Try.prog 5) 59 [] [AVal.str s, AVal.str m] [AObj.rows false 1 (flQ 1 2), AObj.rows true 2 [u0], AObj.rows true 9 [u1], AObj.rows true 1 [[AVal.str s]], AObj.rows true 1 [[iI 0]]] [AVal.str s, AVal.str m] [] (AVal.bool false) []) :: (tr 3 ++ [])))) followed (by kernel_rfl) (allP_of ⟨⟨h1, rfl, rfl, rfl⟩, ⟨⟨h2, rfl, rfl, rfl⟩, (trC 3 trivial)⟩⟩) (keepM 20 [6]) ([0, 1, 2, 3, 4]) (by kernel_rfl) (by kernel_rfl) (by kernel_rfl)

theorem bTQ_1 (u0 u1 : List AVal) (k2 : Nat) (bs2 : List (List AVal)) :
    TripN Try.prog 7 (codeTail (bodyOf Try.f57)) (catchRegs 16 5 1 7 AVal.nili) ([AObj.rows false 2 [[AVal.ptr 0 2 0 0, AVal.slc false 6 1 0 k2 none]], AObj.rows false 1 (flQ 3 4), AObj.dead, AObj.rows true 2 [u0], AObj.rows true 9 [u1], AObj.rows true 1 [[iI 0]], AObj.trows 5 true 1 bs2]) (AExit.normal) (mkR 16 []) ([AObj.rows false 2 [[AVal.ptr 0 2 0 0, AVal.slc false 6 1 0 k2 none]], AObj.rows false 1 (flQ 3 4), AObj.dead, AObj.rows true 2 [u0], AObj.rows true 9 [u1], AObj.rows true 1 [[iI 0]], AObj.trows 5 true 1 bs2]) :=
  evalT (st := St.mk (catchRegs 16 5 1 7 AVal.nili) ([AObj.rows false 2 [[AVal.ptr 0 2 0 0, AVal.slc false 6 1 0 k2 none]], AObj.rows false 1 (flQ 3 4), AObj.dead, AObj.rows true 2 [u0], AObj.rows true 9 [u1], AObj.rows true 1 [[iI 0]], AObj.trows 5 true 1 bs2]) ([Dec.br true]) []) (st' := St.mk (mkR 16 [(0, AVal.ptr 5 1 0 0), (1, iI 1), (2, AVal.tuple []), (3, AVal.tuple []), (4, AVal.nili), (5, AVal.tuple []), (6, AVal.tuple []), (7, AVal.nili), (8, AVal.tuple []), (9, AVal.tt true), (10, AVal.tuple []), (11, AVal.tuple []), (12, AVal.tuple []), (13, AVal.tuple []), (14, AVal.tuple []), (15, AVal.tuple [])]) ([AObj.rows false 2 [[AVal.ptr 0 2 0 0, AVal.slc false 6 1 0 k2 none]], AObj.rows false 1 (flQ 3 4), AObj.dead, AObj.rows true 2 [u0], AObj.rows true 9 [u1], AObj.rows true 1 [[iI 0]], AObj.trows 5 true 1 bs2]) ([]) (tr 1 ++ [])) followed (by kernel_rfl) (allP_of (trC 1 trivial)) (keepM 16 []) ([0, 1, 2, 3, 4, 5, 6]) (by kernel_rfl) (by kernel_rfl) (by kernel_rfl)

theorem bFQ_1 (v0 v1 : List AVal) (s2 : ByteArray) :
    TripN Try.prog 5 (codeTail (bodyOf Try.f57)) (catchRegs 16 4 140 7 AVal.nili) ([AObj.rows false 1 (flQ 1 2), AObj.rows true 2 [v0], AObj.rows true 9 [v1], AObj.rows true 1 [[AVal.str s2]], AObj.rows true 1 [[iI 0]]]) (AExit.normal) (mkR 16 []) ([AObj.rows false 1 (flQ 1 2), AObj.rows true 2 [v0], AObj.rows true 9 [v1], AObj.rows true 1 [[AVal.str s2]], AObj.rows true 1 [[iI 0]]]) :=
  evalT (st := St.mk (catchRegs 16 4 140 7 AVal.nili) ([AObj.rows false 1 (flQ 1 2), AObj.rows true 2 [v0], AObj.rows true 9 [v1], AObj.rows true 1 [[AVal.str s2]], AObj.rows true 1 [[iI 0]]]) ([Dec.br true]) []) (st' := St.mk (mkR 16 [(0, AVal.ptr 4 1 0 0), (1, iI 140), (2, AVal.tuple []), (3, AVal.tuple []), (4, AVal.nili), (5, AVal.tuple []), (6, AVal.tuple []), (7, AVal.nili), (8, AVal.tuple []), (9, AVal.tt true), (10, AVal.tuple []), (11, AVal.tuple []), (12, AVal.tuple []), (13, AVal.tuple []), (14, AVal.tuple []), (15, AVal.tuple [])]) ([AObj.rows false 1 (flQ 1 2), AObj.rows true 2 [v0], AObj.rows true 9 [v1], AObj.rows true 1 [[AVal.str s2]], AObj.rows true 1 [[iI 0]]]) ([]) (tr 1 ++ [])) followed (by kernel_rfl) (allP_of (trC 1 trivial)) (keepM 16 []) ([0, 1, 2, 3, 4]) (by kernel_rfl) (by kernel_rfl) (by kernel_rfl)

theorem bFnQ_1 (x : Nat) :
    TripN Try.prog 5 (codeTail (bodyOf Try.f57)) (catchRegs 16 4 140 7 (AVal.iface 117 (AVal.agg []))) ([AObj.dead, AObj.dead, AObj.dead, AObj.dead, AObj.rows true 1 [[iI 0]]]) (AExit.normal) (mkR 16 []) ([AObj.dead, AObj.dead, AObj.dead, AObj.dead, AObj.rows true 1 [[iI 140]]]) :=
  evalT (st := St.mk (catchRegs 16 4 140 7 (AVal.iface 117 (AVal.agg []))) ([AObj.dead, AObj.dead, AObj.dead, AObj.dead, AObj.rows true 1 [[iI 0]]]) ([Dec.br false]) []) (st' := St.mk (mkR 16 [(0, AVal.ptr 4 1 0 0), (1, iI 140), (2, AVal.tuple []), (3, AVal.tuple []), (4, AVal.tuple []), (5, AVal.ptr 5 0 0 0), (6, AVal.tuple []), (7, AVal.iface 117 (AVal.agg [])), (8, AVal.tuple []), (9, AVal.tt false), (10, AVal.tuple [AVal.agg [], AVal.tt true]), (11, AVal.tt true), (12, AVal.agg []), (13, AVal.ptr 4 1 0 0), (14, iI 140), (15, AVal.ptr 4 1 0 0)]) ([AObj.dead, AObj.dead, AObj.dead, AObj.dead, AObj.rows true 1 [[iI 140]], AObj.rows true 0 [[]]]) ([]) (tr 4 ++ ((false = false) :: []))) followed (by kernel_rfl) (allP_of (trC 4 ⟨rfl, trivial⟩)) (keepM 16 []) ([0, 1, 2, 3, 4]) (by kernel_rfl) (by kernel_rfl) (by kernel_rfl)

theorem hTQ_1 (u0 u1 : List AVal) (k : Nat) (bs : List (List AVal)) :
    TripN Try.prog 5 (codeHd (bodyOf Try.f53)) ([AVal.ptr 0 2 0 0, AVal.slc false 1 1 0 11 none] ++ List.replicate (8 - 2) aundef) ([AObj.rows false 2 [[AVal.ptr 0 2 0 0, AVal.slc false 2 1 0 k none]], AObj.rows false 1 (flQ 3 4), AObj.trows 5 true 1 bs, AObj.rows true 2 [u0], AObj.rows true 9 [u1]]) (AExit.normal) (mkR 8 [(0, AVal.ptr 0 2 0 0), (1, AVal.slc false 1 1 0 11 none), (4, AVal.ptr 5 1 0 0)]) ([AObj.rows false 2 [[AVal.ptr 0 2 0 0, AVal.slc false 2 1 0 k none]], AObj.rows false 1 (flQ 3 4), AObj.trows 5 true 1 bs, AObj.rows true 2 [u0], AObj.rows true 9 [u1], AObj.rows true 1 [[iI 0]]]) :=
  evalT (st := St.mk ([AVal.ptr 0 2 0 0, AVal.slc false 1 1 0 11 none] ++ List.replicate (8 - 2) aundef) ([AObj.rows false 2 [[AVal.ptr 0 2 0 0, AVal.slc false 2 1 0 k none]], AObj.rows false 1 (flQ 3 4), AObj.trows 5 true 1 bs, AObj.rows true 2 [u0], AObj.rows true 9 [u1]]) ([]) []) (st' := St.mk (mkR 8 [(0, AVal.ptr 0 2 0 0), (1, AVal.slc false 1 1 0 11 none), (2, AVal.tuple []), (3, AVal.tuple []), (4, AVal.ptr 5 1 0 0), (5, AVal.tuple []), (6, AVal.tuple []), (7, AVal.tuple [])]) ([AObj.rows false 2 [[AVal.ptr 0 2 0 0, AVal.slc false 2 1 0 k none]], AObj.rows false 1 (flQ 3 4), AObj.trows 5 true 1 bs, AObj.rows true 2 [u0], AObj.rows true 9 [u1], AObj.rows true 1 [[iI 0]]]) ([]) []) followed (by kernel_rfl) (allP_of trivial) (keepM 8 [0, 1, 4]) ([0, 1, 2, 3, 4, 5]) (by kernel_rfl) (by kernel_rfl) (by kernel_rfl)

theorem hFQ_1 (u0 u1 : List AVal) (s m : ByteArray) :
    TripN Try.prog 3 (codeHd (bodyOf Try.f40)) ([AVal.str s, AVal.str m, AVal.slc false 0 1 0 11 none] ++ List.replicate (20 - 3) aundef) ([AObj.rows false 1 (flQ 1 2), AObj.rows true 2 [u0], AObj.rows true 9 [u1]]) (AExit.normal) (mkR 20 [(1, AVal.str m), (2, AVal.slc false 0 1 0 11 none), (3, AVal.ptr 3 1 0 0), (6, AVal.ptr 4 1 0 0)]) ([AObj.rows false 1 (flQ 1 2), AObj.rows true 2 [u0], AObj.rows true 9 [u1], AObj.rows true 1 [[AVal.str s]], AObj.rows true 1 [[iI 0]]]) :=
  evalT (st := St.mk ([AVal.str s, AVal.str m, AVal.slc false 0 1 0 11 none] ++ List.replicate (20 - 3) aundef) ([AObj.rows false 1 (flQ 1 2), AObj.rows true 2 [u0], AObj.rows true 9 [u1]]) ([]) []) (st' := St.mk (mkR 20 [(0, AVal.str s), (1, AVal.str m), (2, AVal.slc false 0 1 0 11 none), (3, AVal.ptr 3 1 0 0), (4, AVal.tuple []), (5, AVal.tuple []), (6, AVal.ptr 4 1 0 0), (7, AVal.tuple []), (8, AVal.tuple []), (9, AVal.tuple []), (10, AVal.tuple []), (11, AVal.tuple []), (12, AVal.tuple []), (13, AVal.tuple []), (14, AVal.tuple []), (15, AVal.tuple []), (16, AVal.tuple []), (17, AVal.tuple []), (18, AVal.tuple []), (19, AVal.tuple [])]) ([AObj.rows false 1 (flQ 1 2), AObj.rows true 2 [u0], AObj.rows true 9 [u1], AObj.rows true 1 [[AVal.str s]], AObj.rows true 1 [[iI 0]]]) ([]) []) followed (by kernel_rfl) (allP_of trivial) (keepM 20 [1, 2, 3, 6]) ([0, 1, 2, 3, 4]) (by kernel_rfl) (by kernel_rfl) (by kernel_rfl)

end Go.L12
end

section
set_option linter.unusedVariables false
set_option maxRecDepth 100000
namespace Go.L12.D
open Go Go.Abs Go.Proofs Go.L12
variable [DS]

theorem rTQ_1 (u0 u1 : List AVal) (k k2 : Nat) (bs bs2 : List (List AVal))
    (h1 : FOk Try.prog 64 [AVal.ptr 0 2 0 0, AVal.slc false 1 1 0 11 none] [AObj.rows false 2 [[AVal.ptr 0 2 0 0, AVal.slc false 2 1 0 k none]], AObj.rows false 1 (flQ 3 4), AObj.trows 5 true 1 bs, AObj.rows true 2 [u0], AObj.rows true 9 [u1]] (AVal.tuple []) [AObj.rows false 2 [[AVal.ptr 0 2 0 0, AVal.slc false 5 1 0 k2 none]], AObj.rows false 1 (flQ 3 4), AObj.dead, AObj.rows true 2 [u0], AObj.rows true 9 [u1], AObj.trows 5 true 1 bs2]) :
    TripN Try.prog 6 (codeTail (codeTail (bodyOf Try.f53))) (mkR 8 [(0, AVal.ptr 0 2 0 0), (1, AVal.slc false 1 1 0 11 none), (4, AVal.ptr 5 1 0 0)]) ([AObj.rows false 2 [[AVal.ptr 0 2 0 0, AVal.slc false 2 1 0 k none]], AObj.rows false 1 (flQ 3 4), AObj.trows 5 true 1 bs, AObj.rows true 2 [u0], AObj.rows true 9 [u1], AObj.rows true 1 [[AVal.int IntKind.i64 0]]]) (AExit.ret) (mkR 8 [(4, AVal.ptr 5 1 0 0)]) ([AObj.rows false 2 [[AVal.ptr 0 2 0 0, AVal.slc false 6 1 0 k2 none]], AObj.rows false 1 (flQ 3 4), AObj.dead, AObj.rows true 2 [u0], AObj.rows true 9 [u1], AObj.rows true 1 [[AVal.int IntKind.i64 0]], AObj.trows 5 true 1 bs2]) :=
  evalT (st := St.mk (mkR 8 [(0, AVal.ptr 0 2 0 0), (1, AVal.slc false 1 1 0 11 none), (4, AVal.ptr 5 1 0 0)]) ([AObj.rows false 2 [[AVal.ptr 0 2 0 0, AVal.slc false 2 1 0 k none]], AObj.rows false 1 (flQ 3 4), AObj.trows 5 true 1 bs, AObj.rows true 2 [u0], AObj.rows true 9 [u1], AObj.rows true 1 [[AVal.int IntKind.i64 0]]]) ([Dec.use [0, 1, 2, 3, 4] [AVal.ptr 0 2 0 0, AVal.slc false 1 1 0 11 none] [AObj.rows false 2 [[AVal.ptr 0 2 0 0, AVal.slc false 2 1 0 k none]], AObj.rows false 1 (flQ 3 4), AObj.trows 5 true 1 bs, AObj.rows true 2 [u0], AObj.rows true 9 [u1]] (AVal.tuple []) [AObj.rows false 2 [[AVal.ptr 0 2 0 0, AVal.slc false 5 1 0 k2 none]], AObj.rows false 1 (flQ 3 4), AObj.dead, AObj.rows true 2 [u0], AObj.rows true 9 [u1], AObj.trows 5 true 1 bs2]]) []) (st' := St.mk (mkR 8 [(0, AVal.ptr 0 2 0 0), (1, AVal.slc false 1 1 0 11 none), (4, AVal.ptr 5 1 0 0), (5, AVal.ptr 0 2 0 0), (6, AVal.slc false 1 1 0 11 none), (7, AVal.tuple [])]) ([AObj.rows false 2 [[AVal.ptr 0 2 0 0, AVal.slc false 6 1 0 k2 none]], AObj.rows false 1 (flQ 3 4), AObj.dead, AObj.rows true 2 [u0], AObj.rows true 9 [u1], AObj.rows true 1 [[AVal.int IntKind.i64 0]], AObj.trows 5 true 1 bs2]) ([]) (tr 2 ++ ((Owed.use (owed Try.prog 6) 64 [0, 1, 2, 3, 4] [AVal.ptr 0 2 0 0, AVal.slc false 1 1 0 11 none] [AObj.rows false 2 [[AVal.ptr 0 2 0 0, AVal.slc false 2 1 0 k none]], AObj.rows false 1 (flQ 3 4), AObj.trows 5 true 1 bs, AObj.rows true 2 [u0], AObj.rows true 9 [u1], AObj.rows true 1 [[AVal.int IntKind.i64 0]]] [AVal.ptr 0 2 0 0, AVal.slc false 1 1 0 11 none] [AObj.rows false 2 [[AVal.ptr 0 2 0 0, AVal.slc false 2 1 0 k none]], AObj.rows false 1 (flQ 3 4), AObj.trows 5 true 1 bs, AObj.rows true 2 [u0], AObj.rows true 9 [u1]] (AVal.tuple []) [AObj.rows false 2 [[AVal.ptr 0 2 0 0, AVal.slc false 5 1 0 k2 none]], AObj.rows false 1 (flQ 3 4), AObj.dead, AObj.rows true 2 [u0], AObj.rows true 9 [u1], AObj.trows 5 true 1 bs2]) :: []))) followed (by kernel_rfl) (allP_of (trC 2 ⟨⟨h1, rfl, rfl, rfl⟩, trivial⟩)) (keepM 8 [4]) ([0, 1, 2, 3, 4, 5, 6]) (by kernel_rfl) (by kernel_rfl) (by kernel_rfl)

theorem rFQ_1 (u0 u1 v0 v1 : List AVal) (m s s2 : ByteArray) (b : Bool)
    (h1 : FOk Try.prog 58 [AVal.bool (ByteArray.toList s2 == ByteArray.toList (ByteArray.mk #[]))] [] (AVal.tuple []) [])
    (h2 : FOk Try.prog 60 [AVal.ptr 0 1 0 0, AVal.slc false 1 1 0 11 none] [AObj.rows true 1 [[AVal.str (ByteArray.extract s (Int.toNat (↑(ByteArray.size m) : Int)) (Int.toNat (↑(ByteArray.size s) : Int)))]], AObj.rows false 1 (flQ 2 3), AObj.rows true 2 [u0], AObj.rows true 9 [u1]] (AVal.tuple []) [AObj.rows true 1 [[AVal.str s2]], AObj.rows false 1 (flQ 2 3), AObj.rows true 2 [v0], AObj.rows true 9 [v1]])
    (h3 : decide (0 ≤ (↑(ByteArray.size m) : Int) ∧ (↑(ByteArray.size m) : Int) ≤ (↑(ByteArray.size s) : Int) ∧ (↑(ByteArray.size s) : Int) ≤ (↑(ByteArray.size s) : Int)) = true)
    (h4 : FOk Try.prog 58 [AVal.bool true] [] (AVal.tuple []) [])
    (h5 : FOk Try.prog 59 [AVal.str s, AVal.str m] [] (AVal.bool true) []) :
    TripN Try.prog 5 (codeTail (codeTail (bodyOf Try.f40))) (mkR 20 [(1, AVal.str m), (2, AVal.slc false 0 1 0 11 none), (3, AVal.ptr 3 1 0 0), (6, AVal.ptr 4 1 0 0)]) ([AObj.rows false 1 (flQ 1 2), AObj.rows true 2 [u0], AObj.rows true 9 [u1], AObj.rows true 1 [[AVal.str s]], AObj.rows true 1 [[AVal.int IntKind.i64 0]]]) (AExit.ret) (mkR 20 [(6, AVal.ptr 4 1 0 0)]) ([AObj.rows false 1 (flQ 1 2), AObj.rows true 2 [v0], AObj.rows true 9 [v1], AObj.rows true 1 [[AVal.str s2]], AObj.rows true 1 [[AVal.int IntKind.i64 0]]]) :=
  evalT (st := St.mk (mkR 20 [(1, AVal.str m), (2, AVal.slc false 0 1 0 11 none), (3, AVal.ptr 3 1 0 0), (6, AVal.ptr 4 1 0 0)]) ([AObj.rows false 1 (flQ 1 2), AObj.rows true 2 [u0], AObj.rows true 9 [u1], AObj.rows true 1 [[AVal.str s]], AObj.rows true 1 [[AVal.int IntKind.i64 0]]]) ([Dec.use [] [AVal.str s, AVal.str m] [] (AVal.bool true) [], Dec.use [] [AVal.bool true] [] (AVal.tuple []) [], Dec.use [3, 0, 1, 2] [AVal.ptr 0 1 0 0, AVal.slc false 1 1 0 11 none] [AObj.rows true 1 [[AVal.str (ByteArray.extract s (Int.toNat (↑(ByteArray.size m) : Int)) (Int.toNat (↑(ByteArray.size s) : Int)))]], AObj.rows false 1 (flQ 2 3), AObj.rows true 2 [u0], AObj.rows true 9 [u1]] (AVal.tuple []) [AObj.rows true 1 [[AVal.str s2]], AObj.rows false 1 (flQ 2 3), AObj.rows true 2 [v0], AObj.rows true 9 [v1]], Dec.use [] [AVal.bool (ByteArray.toList s2 == ByteArray.toList (ByteArray.mk #[]))] [] (AVal.tuple []) []]) []) (st' := St.mk (mkR 20 [(1, AVal.str m), (2, AVal.slc false 0 1 0 11 none), (3, AVal.ptr 3 1 0 0), (6, AVal.ptr 4 1 0 0), (7, AVal.str s), (8, AVal.str m), (9, AVal.bool true), (10, AVal.tuple []), (11, AVal.str s), (12, AVal.str m), (13, AVal.int IntKind.i64 (↑(ByteArray.size m) : Int)), (14, AVal.str (ByteArray.extract s (Int.toNat (↑(ByteArray.size m) : Int)) (Int.toNat (↑(ByteArray.size s) : Int)))), (15, AVal.slc false 0 1 0 11 none), (16, AVal.tuple []), (17, AVal.str s2), (18, AVal.bool (ByteArray.toList s2 == ByteArray.toList (ByteArray.mk #[]))), (19, AVal.tuple [])]) ([AObj.rows false 1 (flQ 1 2), AObj.rows true 2 [v0], AObj.rows true 9 [v1], AObj.rows true 1 [[AVal.str s2]], AObj.rows true 1 [[AVal.int IntKind.i64 0]]]) ([]) (tr 2 ++ ((Owed.use (owed Try.prog 5) 58 [] [AVal.bool (ByteArray.toList s2 == ByteArray.toList (ByteArray.mk #[]))] [AObj.rows false 1 (flQ 1 2), AObj.rows true 2 [v0], AObj.rows true 9 [v1], AObj.rows true 1 [[AVal.str s2]], AObj.rows true 1 [[AVal.int IntKind.i64 0]]] [AVal.bool (ByteArray.toList s2 == ByteArray.toList (ByteArray.mk #[]))] [] (AVal.tuple []) []) :: (tr 3 ++ ((Owed.use (owed Try.prog 5) 60 [3, 0, 1, 2] [AVal.ptr 3 1 0 0, AVal.slc false 0 1 0 11 none] [AObj.rows false 1 (flQ 1 2), AObj.rows true 2 [u0], AObj.rows true 9 [u1], AObj.rows true 1 [[AVal.str (ByteArray.extract s (Int.toNat (↑(ByteArray.size m) : Int)) (Int.toNat (↑(ByteArray.size s) : Int)))]], AObj.rows true 1 [[AVal.int IntKind.i64 0]]] [AVal.ptr 0 1 0 0, AVal.slc false 1 1 0 11 none] [AObj.rows true 1 [[AVal.str (ByteArray.extract s (Int.toNat (↑(ByteArray.size m) : Int)) (Int.toNat (↑(ByteArray.size s) : Int)))]], AObj.rows false 1 (flQ 2 3), AObj.rows true 2 [u0], AObj.rows true 9 [u1]] (AVal.tuple []) [AObj.rows true 1 [[AVal.str s2]], AObj.rows false 1 (flQ 2 3), AObj.rows true 2 [v0], AObj.rows true 9 [v1]]) :: (tr 2 ++ ((decide (0 ≤ (↑(ByteArray.size m) : Int) ∧ (↑(ByteArray.size m) : Int) ≤ (↑(ByteArray.size s) : Int) ∧ (↑(ByteArray.size s) : Int) ≤ (↑(ByteArray.size s) : Int)) = true) :: (tr 3 ++ ((Owed.use (owed Try.prog 5) 58 [] [AVal.bool true] [AObj.rows false 1 (flQ 1 2), AObj.rows true 2 [u0], AObj.rows true 9 [u1], AObj.rows true 1 [[AVal.str s]], AObj.rows true 1 [[AVal.int IntKind.i64 0]]] [AVal.bool true] [] (AVal.tuple []) []) :: ((Owed.use (owed Try.prog 5) 59 [] [AVal.str s, AVal.str m] [AObj.rows false 1 (flQ 1 2), AObj.rows true 2 [u0], AObj.rows true 9 [u1], AObj.rows true 1 [[AVal.str s]], AObj.rows true 1 [[AVal.int IntKind.i64 0]]] [AVal.str s, AVal.str m] [] (AVal.bool true) []) :: (tr 3 ++ []))))))))))) followed (by kernel_rfl) (allP_of (trC 2 ⟨⟨h1, rfl, rfl, rfl⟩, (trC 3 ⟨⟨h2, rfl, rfl, rfl⟩, (trC 2 ⟨h3, (trC 3 ⟨⟨h4, rfl, rfl, rfl⟩, ⟨⟨h5, rfl, rfl, rfl⟩, (trC 3 trivial)⟩⟩)⟩)⟩)⟩)) (keepM 20 [6]) ([0, 1, 2, 3, 4]) (by kernel_rfl) (by kernel_rfl) (by kernel_rfl)

theorem rFeQ_1 (u0 u1 v0 v1 : List AVal) (m s s2 : ByteArray) (b : Bool)
    (h1 : FOk Try.prog 58 [AVal.bool (ByteArray.toList s2 == ByteArray.toList (ByteArray.mk #[]))] [] (AVal.pan 117) [])
    (h2 : FOk Try.prog 60 [AVal.ptr 0 1 0 0, AVal.slc false 1 1 0 11 none] [AObj.rows true 1 [[AVal.str (ByteArray.extract s (Int.toNat (↑(ByteArray.size m) : Int)) (Int.toNat (↑(ByteArray.size s) : Int)))]], AObj.rows false 1 (flQ 2 3), AObj.rows true 2 [u0], AObj.rows true 9 [u1]] (AVal.tuple []) [AObj.rows true 1 [[AVal.str s2]], AObj.rows false 1 (flQ 2 3), AObj.rows true 2 [v0], AObj.rows true 9 [v1]])
    (h3 : decide (0 ≤ (↑(ByteArray.size m) : Int) ∧ (↑(ByteArray.size m) : Int) ≤ (↑(ByteArray.size s) : Int) ∧ (↑(ByteArray.size s) : Int) ≤ (↑(ByteArray.size s) : Int)) = true)
    (h4 : FOk Try.prog 58 [AVal.bool true] [] (AVal.tuple []) [])
    (h5 : FOk Try.prog 59 [AVal.str s, AVal.str m] [] (AVal.bool true) []) :
    TripN Try.prog 5 (codeTail (codeTail (bodyOf Try.f40))) (mkR 20 [(1, AVal.str m), (2, AVal.slc false 0 1 0 11 none), (3, AVal.ptr 3 1 0 0), (6, AVal.ptr 4 1 0 0)]) ([AObj.rows false 1 (flQ 1 2), AObj.rows true 2 [u0], AObj.rows true 9 [u1], AObj.rows true 1 [[AVal.str s]], AObj.rows true 1 [[AVal.int IntKind.i64 0]]]) (AExit.pan 117) (mkR 20 [(6, AVal.ptr 4 1 0 0)]) ([AObj.rows false 1 (flQ 1 2), AObj.rows true 2 [v0], AObj.rows true 9 [v1], AObj.rows true 1 [[AVal.str s2]], AObj.rows true 1 [[AVal.int IntKind.i64 0]]]) :=
  evalT (st := St.mk (mkR 20 [(1, AVal.str m), (2, AVal.slc false 0 1 0 11 none), (3, AVal.ptr 3 1 0 0), (6, AVal.ptr 4 1 0 0)]) ([AObj.rows false 1 (flQ 1 2), AObj.rows true 2 [u0], AObj.rows true 9 [u1], AObj.rows true 1 [[AVal.str s]], AObj.rows true 1 [[AVal.int IntKind.i64 0]]]) ([Dec.use [] [AVal.str s, AVal.str m] [] (AVal.bool true) [], Dec.use [] [AVal.bool true] [] (AVal.tuple []) [], Dec.use [3, 0, 1, 2] [AVal.ptr 0 1 0 0, AVal.slc false 1 1 0 11 none] [AObj.rows true 1 [[AVal.str (ByteArray.extract s (Int.toNat (↑(ByteArray.size m) : Int)) (Int.toNat (↑(ByteArray.size s) : Int)))]], AObj.rows false 1 (flQ 2 3), AObj.rows true 2 [u0], AObj.rows true 9 [u1]] (AVal.tuple []) [AObj.rows true 1 [[AVal.str s2]], AObj.rows false 1 (flQ 2 3), AObj.rows true 2 [v0], AObj.rows true 9 [v1]], Dec.use [] [AVal.bool (ByteArray.toList s2 == ByteArray.toList (ByteArray.mk #[]))] [] (AVal.pan 117) []]) []) (st' := St.mk (mkR 20 [(1, AVal.str m), (2, AVal.slc false 0 1 0 11 none), (3, AVal.ptr 3 1 0 0), (6, AVal.ptr 4 1 0 0), (7, AVal.str s), (8, AVal.str m), (9, AVal.bool true), (10, AVal.tuple []), (11, AVal.str s), (12, AVal.str m), (13, AVal.int IntKind.i64 (↑(ByteArray.size m) : Int)), (14, AVal.str (ByteArray.extract s (Int.toNat (↑(ByteArray.size m) : Int)) (Int.toNat (↑(ByteArray.size s) : Int)))), (15, AVal.slc false 0 1 0 11 none), (16, AVal.tuple []), (17, AVal.str s2), (18, AVal.bool (ByteArray.toList s2 == ByteArray.toList (ByteArray.mk #[])))]) ([AObj.rows false 1 (flQ 1 2), AObj.rows true 2 [v0], AObj.rows true 9 [v1], AObj.rows true 1 [[AVal.str s2]], AObj.rows true 1 [[AVal.int IntKind.i64 0]]]) ([]) ((Owed.use (owed Try.prog 5) 58 [] [AVal.bool (ByteArray.toList s2 == ByteArray.toList (ByteArray.mk #[]))] [AObj.rows false 1 (flQ 1 2), AObj.rows true 2 [v0], AObj.rows true 9 [v1], AObj.rows true 1 [[AVal.str s2]], AObj.rows true 1 [[AVal.int IntKind.i64 0]]] [AVal.bool (ByteArray.toList s2 == ByteArray.toList (ByteArray.mk #[]))] [] (AVal.pan 117) []) :: (tr 3 ++ ((Owed.use (owed Try.prog 5) 60 [3, 0, 1, 2] [AVal.ptr 3 1 0 0, AVal.slc false 0 1 0 11 none] [AObj.rows false 1 (flQ 1 2), AObj.rows true 2 [u0], AObj.rows true 9 [u1], AObj.rows true 1 [[AVal.str (ByteArray.extract s (Int.toNat (↑(ByteArray.size m) : Int)) (Int.toNat (↑(ByteArray.size s) : Int)))]], AObj.rows true 1 [[AVal.int IntKind.i64 0]]] [AVal.ptr 0 1 0 0, AVal.slc false 1 1 0 11 none] [AObj.rows true 1 [[AVal.str (ByteArray.extract s (Int.toNat (↑(ByteArray.size m) : Int)) (Int.toNat (↑(ByteArray.size s) : Int)))]], AObj.rows false 1 (flQ 2 3), AObj.rows true 2 [u0], AObj.rows true 9 [u1]] (AVal.tuple []) [AObj.rows true 1 [[AVal.str s2]], AObj.rows false 1 (flQ 2 3), AObj.rows true 2 [v0], AObj.rows true 9 [v1]]) :: (tr 2 ++ ((decide (0 ≤ (↑(ByteArray.size m) : Int) ∧ (↑(ByteArray.size m) : Int) ≤ (↑(ByteArray.size s) : Int) ∧ (↑(ByteArray.size s) : Int) ≤ (↑(ByteArray.size s) : Int)) = true) :: (tr 3 ++ ((Owed.use (owed Try.prog 5) 58 [] [AVal.bool true] [AObj.rows false 1 (flQ 1 2), AObj.rows true 2 [u0], AObj.rows true 9 [u1], AObj.rows true 1 [[AVal.str s]], AObj.rows true 1 [[AVal.int IntKind.i64 0]]] [AVal.bool true] [] (AVal.tuple []) []) :: ((Owed.use (owed Try.prog 5) 59 [] [AVal.str s, AVal.str m] [AObj.rows false 1 (flQ 1 2), AObj.rows true 2 [u0], AObj.rows true 9 [u1], AObj.rows true 1 [[AVal.str s]], AObj.rows true 1 [[AVal.int IntKind.i64 0]]] [AVal.str s, AVal.str m] [] (AVal.bool true) []) :: (tr 3 ++ [])))))))))) followed (by kernel_rfl) (allP_of ⟨⟨h1, rfl, rfl, rfl⟩, (trC 3 ⟨⟨h2, rfl, rfl, rfl⟩, (trC 2 ⟨h3, (trC 3 ⟨⟨h4, rfl, rfl, rfl⟩, ⟨⟨h5, rfl, rfl, rfl⟩, (trC 3 trivial)⟩⟩)⟩)⟩)⟩) (keepM 20 [6]) ([0, 1, 2, 3, 4]) (by kernel_rfl) (by kernel_rfl) (by kernel_rfl)

theorem rFnQ_1 (u0 u1 : List AVal) (m s : ByteArray)
    (h1 : FOk Try.prog 60 [AVal.ptr 0 1 0 0, AVal.slc false 1 1 0 11 none] [AObj.rows true 1 [[AVal.str (ByteArray.extract s (Int.toNat (↑(ByteArray.size m) : Int)) (Int.toNat (↑(ByteArray.size s) : Int)))]], AObj.rows false 1 (flQ 2 3), AObj.rows true 2 [u0], AObj.rows true 9 [u1]] (AVal.pan 117) [AObj.dead, AObj.dead, AObj.dead, AObj.dead])
    (h2 : decide (0 ≤ (↑(ByteArray.size m) : Int) ∧ (↑(ByteArray.size m) : Int) ≤ (↑(ByteArray.size s) : Int) ∧ (↑(ByteArray.size s) : Int) ≤ (↑(ByteArray.size s) : Int)) = true)
    (h3 : FOk Try.prog 58 [AVal.bool true] [] (AVal.tuple []) [])
    (h4 : FOk Try.prog 59 [AVal.str s, AVal.str m] [] (AVal.bool true) []) :
    TripN Try.prog 5 (codeTail (codeTail (bodyOf Try.f40))) (mkR 20 [(1, AVal.str m), (2, AVal.slc false 0 1 0 11 none), (3, AVal.ptr 3 1 0 0), (6, AVal.ptr 4 1 0 0)]) ([AObj.rows false 1 (flQ 1 2), AObj.rows true 2 [u0], AObj.rows true 9 [u1], AObj.rows true 1 [[AVal.str s]], AObj.rows true 1 [[AVal.int IntKind.i64 0]]]) (AExit.pan 117) (mkR 20 [(6, AVal.ptr 4 1 0 0)]) ([AObj.dead, AObj.dead, AObj.dead, AObj.dead, AObj.rows true 1 [[AVal.int IntKind.i64 0]]]) :=
  evalT (st := St.mk (mkR 20 [(1, AVal.str m), (2, AVal.slc false 0 1 0 11 none), (3, AVal.ptr 3 1 0 0), (6, AVal.ptr 4 1 0 0)]) ([AObj.rows false 1 (flQ 1 2), AObj.rows true 2 [u0], AObj.rows true 9 [u1], AObj.rows true 1 [[AVal.str s]], AObj.rows true 1 [[AVal.int IntKind.i64 0]]]) ([Dec.use [] [AVal.str s, AVal.str m] [] (AVal.bool true) [], Dec.use [] [AVal.bool true] [] (AVal.tuple []) [], Dec.use [3, 0, 1, 2] [AVal.ptr 0 1 0 0, AVal.slc false 1 1 0 11 none] [AObj.rows true 1 [[AVal.str (ByteArray.extract s (Int.toNat (↑(ByteArray.size m) : Int)) (Int.toNat (↑(ByteArray.size s) : Int)))]], AObj.rows false 1 (flQ 2 3), AObj.rows true 2 [u0], AObj.rows true 9 [u1]] (AVal.pan 117) [AObj.dead, AObj.dead, AObj.dead, AObj.dead]]) []) (st' := St.mk (mkR 20 [(1, AVal.str m), (2, AVal.slc false 0 1 0 11 none), (3, AVal.ptr 3 1 0 0), (6, AVal.ptr 4 1 0 0), (7, AVal.str s), (8, AVal.str m), (9, AVal.bool true), (10, AVal.tuple []), (11, AVal.str s), (12, AVal.str m), (13, AVal.int IntKind.i64 (↑(ByteArray.size m) : Int)), (14, AVal.str (ByteArray.extract s (Int.toNat (↑(ByteArray.size m) : Int)) (Int.toNat (↑(ByteArray.size s) : Int)))), (15, AVal.slc false 0 1 0 11 none)]) ([AObj.dead, AObj.dead, AObj.dead, AObj.dead, AObj.rows true 1 [[AVal.int IntKind.i64 0]]]) ([]) ((Owed.use (owed Try.prog 5) 60 [3, 0, 1, 2] [AVal.ptr 3 1 0 0, AVal.slc false 0 1 0 11 none] [AObj.rows false 1 (flQ 1 2), AObj.rows true 2 [u0], AObj.rows true 9 [u1], AObj.rows true 1 [[AVal.str (ByteArray.extract s (Int.toNat (↑(ByteArray.size m) : Int)) (Int.toNat (↑(ByteArray.size s) : Int)))]], AObj.rows true 1 [[AVal.int IntKind.i64 0]]] [AVal.ptr 0 1 0 0, AVal.slc false 1 1 0 11 none] [AObj.rows true 1 [[AVal.str (ByteArray.extract s (Int.toNat (↑(ByteArray.size m) : Int)) (Int.toNat (↑(ByteArray.size s) : Int)))]], AObj.rows false 1 (flQ 2 3), AObj.rows true 2 [u0], AObj.rows true 9 [u1]] (AVal.pan 117) [AObj.dead, AObj.dead, AObj.dead, AObj.dead]) :: (tr 2 ++ ((decide (0 ≤ (↑(ByteArray.size m) : Int) ∧ (↑(ByteArray.size m) : Int) ≤ (↑(ByteArray.size s) : Int) ∧ (↑(ByteArray.size s) : Int) ≤ (↑(ByteArray.size s) : Int)) = true) :: (tr 3 ++ ((Owed.use (owed Try.prog 5) 58 [] [AVal.bool true] [AObj.rows false 1 (flQ 1 2), AObj.rows true 2 [u0], AObj.rows true 9 [u1], AObj.rows true 1 [[AVal.str s]], AObj.rows true 1 [[AVal.int IntKind.i64 0]]] [AVal.bool true] [] (AVal.tuple []) []) :: ((Owed.use (owed Try.prog 5) 59 [] [AVal.str s, AVal.str m] [AObj.rows false 1 (flQ 1 2), AObj.rows true 2 [u0], AObj.rows true 9 [u1], AObj.rows true 1 [[AVal.str s]], AObj.rows true 1 [[AVal.int IntKind.i64 0]]] [AVal.str s, AVal.str m] [] (AVal.bool true) []) :: (tr 3 ++ [])))))))) followed (by kernel_rfl) (allP_of ⟨⟨h1, rfl, rfl, rfl⟩, (trC 2 ⟨h2, (trC 3 ⟨⟨h3, rfl, rfl, rfl⟩, ⟨⟨h4, rfl, rfl, rfl⟩, (trC 3 trivial)⟩⟩)⟩)⟩) (keepM 20 [6]) ([0, 1, 2, 3, 4]) (by kernel_rfl) (by kernel_rfl) (by kernel_rfl)

theorem rFpQ_1 (u0 u1 : List AVal) (m s : ByteArray)
    (h1 : FOk Try.prog 58 [AVal.bool false] [] (AVal.pan 117) [])
    (h2 : FOk Try.prog 59 [AVal.str s, AVal.str m] [] (AVal.bool false) []) :
    TripN Try.prog 5 (codeTail (codeTail (bodyOf Try.f40))) (mkR 20 [(1, AVal.str m), (2, AVal.slc false 0 1 0 11 none), (3, AVal.ptr 3 1 0 0), (6, AVal.ptr 4 1 0 0)]) ([AObj.rows false 1 (flQ 1 2), AObj.rows true 2 [u0], AObj.rows true 9 [u1], AObj.rows true 1 [[AVal.str s]], AObj.rows true 1 [[AVal.int IntKind.i64 0]]]) (AExit.pan 117) (mkR 20 [(6, AVal.ptr 4 1 0 0)]) ([AObj.rows false 1 (flQ 1 2), AObj.rows true 2 [u0], AObj.rows true 9 [u1], AObj.rows true 1 [[AVal.str s]], AObj.rows true 1 [[AVal.int IntKind.i64 0]]]) :=
  evalT (st := St.mk (mkR 20 [(1, AVal.str m), (2, AVal.slc false 0 1 0 11 none), (3, AVal.ptr 3 1 0 0), (6, AVal.ptr 4 1 0 0)]) ([AObj.rows false 1 (flQ 1 2), AObj.rows true 2 [u0], AObj.rows true 9 [u1], AObj.rows true 1 [[AVal.str s]], AObj.rows true 1 [[AVal.int IntKind.i64 0]]]) ([Dec.use [] [AVal.str s, AVal.str m] [] (AVal.bool false) [], Dec.use [] [AVal.bool false] [] (AVal.pan 117) []]) []) (st' := St.mk (mkR 20 [(1, AVal.str m), (2, AVal.slc false 0 1 0 11 none), (3, AVal.ptr 3 1 0 0), (6, AVal.ptr 4 1 0 0), (7, AVal.str s), (8, AVal.str m), (9, AVal.bool false)]) ([AObj.rows false 1 (flQ 1 2), AObj.rows true 2 [u0], AObj.rows true 9 [u1], AObj.rows true 1 [[AVal.str s]], AObj.rows true 1 [[AVal.int IntKind.i64 0]]]) ([]) ((Owed.use (owed Try.prog 5) 58 [] [AVal.bool false] [AObj.rows false 1 (flQ 1 2), AObj.rows true 2 [u0], AObj.rows true 9 [u1], AObj.rows true 1 [[AVal.str s]], AObj.rows true 1 [[AVal.int IntKind.i64 0]]] [AVal.bool false] [] (AVal.pan 117) []) :: ((Owed.use (owed Try.prog 5) 59 [] [AVal.str s, AVal.str m] [AObj.rows false 1 (flQ 1 2), AObj.rows true 2 [u0], AObj.rows true 9 [u1], AObj.rows true 1 [[AVal.str s]], AObj.rows true 1 [[AVal.int IntKind.i64 0]]] [AVal.str s, AVal.str m] [] (AVal.bool false) []) :: (tr 3 ++ [])))) followed (by kernel_rfl) (allP_of ⟨⟨h1, rfl, rfl, rfl⟩, ⟨⟨h2, rfl, rfl, rfl⟩, (trC 3 trivial)⟩⟩) (keepM 20 [6]) ([0, 1, 2, 3, 4]) (by kernel_rfl) (by kernel_rfl) (by kernel_rfl)

end Go.L12.D
end

section
set_option linter.unusedVariables false
set_option linter.unusedSimpArgs false
set_option maxRecDepth 100000
namespace Go.L12
open Go Go.Abs Go.Proofs

theorem triedQ_ok (u0 u1 : List AVal) (k k2 : Nat) (bs bs2 : List (List AVal)) (h : FOk Try.prog 64 [.ptr 0 2 0 0, .slc false 1 1 0 11 none] [.rows false 2 [[.ptr 0 2 0 0, .slc false 2 1 0 k none]], .rows false 1 (flQ 3 4), .trows 5 true 1 bs, .rows true 2 [u0], .rows true 9 [u1]] (.tuple []) [.rows false 2 [[.ptr 0 2 0 0, .slc false 5 1 0 k2 none]], .rows false 1 (flQ 3 4), .dead, .rows true 2 [u0], .rows true 9 [u1], .trows 5 true 1 bs2]) :
    FOk Try.prog 53 [.ptr 0 2 0 0, .slc false 1 1 0 11 none] [.rows false 2 [[.ptr 0 2 0 0, .slc false 2 1 0 k none]], .rows false 1 (flQ 3 4), .trows 5 true 1 bs, .rows true 2 [u0], .rows true 9 [u1]] (.int .i64 0) [.rows false 2 [[.ptr 0 2 0 0, .slc false 5 1 0 k2 none]], .rows false 1 (flQ 3 4), .dead, .rows true 2 [u0], .rows true 9 [u1], .trows 5 true 1 bs2] :=
  (defer_calls (P := Try.prog) (f := 53) (fn := Try.f53) (c0 := .seq (codeHd (bodyOf Try.f53)) (.seq (.region 1 #[firstOp (codeTail (bodyOf Try.f53))] false) (codeTail (codeTail (bodyOf Try.f53))))) (rest := codeTail (codeTail (bodyOf Try.f53))) (blk := codeTail (bodyOf Try.f57)) (dop := firstOp (codeTail (bodyOf Try.f53))) (rop := firstOp (bodyOf Try.f57)) (gn := Try.f57) (g := 57) (no := 1) (k := 4) (kk := 7) (id := 5) (rid := 1) (rid2 := 0) (ts := #[102, 26]) (tsr := #[]) (xs := [.ptr 0 2 0 0, .slc false 1 1 0 11 none]) (σ := [.rows false 2 [[.ptr 0 2 0 0, .slc false 2 1 0 k none]], .rows false 1 (flQ 3 4), .trows 5 true 1 bs, .rows true 2 [u0], .rows true 9 [u1]]) (σ1 := [.rows false 2 [[.ptr 0 2 0 0, .slc false 2 1 0 k none]], .rows false 1 (flQ 3 4), .trows 5 true 1 bs, .rows true 2 [u0], .rows true 9 [u1], .rows true 1 [[.int .i64 0]]]) (y := ([.int .i64 0], tr 3 ++ []))
    rfl Try.func53 (by kernel_rfl) (by kernel_rfl) (by kernel_rfl) (by kernel_rfl) (by kernel_rfl) Try.func57 (by kernel_rfl) (by kernel_rfl) (by kernel_rfl) (by kernel_rfl) (by kernel_rfl) (by kernel_rfl)
    (Pre.one (hTQ_1 u0 u1 k bs)) (fun ds => @D.rTQ_1 ⟨ds⟩ u0 u1 k k2 bs bs2 h) (by kernel_rfl) (.inl ⟨rfl, rfl⟩) (bTQ_1 u0 u1 k2 bs2) (by kernel_rfl) tr3).move [0, 1, 2, 3, 4, 6] (by kernel_rfl) (by kernel_rfl) (by kernel_rfl)
theorem fromQ_ok (u0 u1 v0 v1 : List AVal) (s m : ByteArray) (hp : (lB m <+: lB s)) (h : FOk Try.prog 60 [.ptr 0 1 0 0, .slc false 1 1 0 11 none] [.rows true 1 [[.str (s.extract m.size s.size)]], .rows false 1 (flQ 2 3), .rows true 2 [u0], .rows true 9 [u1]] (.tuple []) [.rows true 1 [[.str ⟨#[]⟩]], .rows false 1 (flQ 2 3), .rows true 2 [v0], .rows true 9 [v1]]) :
    FOk Try.prog 40 [.str s, .str m, .slc false 0 1 0 11 none] [.rows false 1 (flQ 1 2), .rows true 2 [u0], .rows true 9 [u1]] (.int .i64 0) [.rows false 1 (flQ 1 2), .rows true 2 [v0], .rows true 9 [v1]] :=
  have hl := hp.length_le
  have hl : m.size ≤ s.size := by rw [lB_length, lB_length] at hl; exact hl
  (defer_calls (P := Try.prog) (f := 40) (fn := Try.f40) (c0 := .seq (codeHd (bodyOf Try.f40)) (.seq (.region 1 #[firstOp (codeTail (bodyOf Try.f40))] false) (codeTail (codeTail (bodyOf Try.f40))))) (rest := codeTail (codeTail (bodyOf Try.f40))) (blk := codeTail (bodyOf Try.f57)) (dop := firstOp (codeTail (bodyOf Try.f40))) (rop := firstOp (bodyOf Try.f57)) (gn := Try.f57) (g := 57) (no := 140) (k := 6) (kk := 7) (id := 4) (rid := 1) (rid2 := 0) (ts := #[102, 26]) (tsr := #[]) (xs := [.str s, .str m, .slc false 0 1 0 11 none]) (σ := [.rows false 1 (flQ 1 2), .rows true 2 [u0], .rows true 9 [u1]]) (σ1 := [.rows false 1 (flQ 1 2), .rows true 2 [u0], .rows true 9 [u1], .rows true 1 [[.str s]], .rows true 1 [[.int .i64 0]]]) (y := ([.int .i64 0], tr 3 ++ []))
    rfl Try.func40 (by kernel_rfl) (by kernel_rfl) (by kernel_rfl) (by kernel_rfl) (by kernel_rfl) Try.func57 (by kernel_rfl) (by kernel_rfl) (by kernel_rfl) (by kernel_rfl) (by kernel_rfl) (by kernel_rfl)
    (Pre.one (hFQ_1 u0 u1 s m)) (fun ds => @D.rFQ_1 ⟨ds⟩ u0 u1 v0 v1 m s ⟨#[]⟩ true (right_ok _ (by simp)) h (decide_eq_true (by omega)) (right_ok _ rfl) (by have := hasPrefix_ok s m; rw [decide_eq_true hp] at this; exact this)) (by kernel_rfl) (.inl ⟨rfl, rfl⟩) (bFQ_1 v0 v1 ⟨#[]⟩) (by kernel_rfl) tr3).move [0, 1, 2] (by kernel_rfl) (by kernel_rfl) (by kernel_rfl)
theorem fromQ_more (u0 u1 v0 v1 : List AVal) (s m s2 : ByteArray) (hp : (lB m <+: lB s)) (h2 : s2.size ≠ 0) (h : FOk Try.prog 60 [.ptr 0 1 0 0, .slc false 1 1 0 11 none] [.rows true 1 [[.str (s.extract m.size s.size)]], .rows false 1 (flQ 2 3), .rows true 2 [u0], .rows true 9 [u1]] (.tuple []) [.rows true 1 [[.str s2]], .rows false 1 (flQ 2 3), .rows true 2 [v0], .rows true 9 [v1]]) :
    FOk Try.prog 40 [.str s, .str m, .slc false 0 1 0 11 none] [.rows false 1 (flQ 1 2), .rows true 2 [u0], .rows true 9 [u1]] (.int .i64 140) [.dead, .dead, .dead] :=
  have hl := hp.length_le
  have hl : m.size ≤ s.size := by rw [lB_length, lB_length] at hl; exact hl
  have hne : (s2.toList == (ByteArray.mk #[]).toList) = false := by
    rw [toList_lB, toList_lB, beq_eq_false_iff_ne]
    intro e
    have := lB_inj e
    subst this
    exact h2 rfl
  (defer_calls (P := Try.prog) (f := 40) (fn := Try.f40) (c0 := .seq (codeHd (bodyOf Try.f40)) (.seq (.region 1 #[firstOp (codeTail (bodyOf Try.f40))] false) (codeTail (codeTail (bodyOf Try.f40))))) (rest := codeTail (codeTail (bodyOf Try.f40))) (blk := codeTail (bodyOf Try.f57)) (dop := firstOp (codeTail (bodyOf Try.f40))) (rop := firstOp (bodyOf Try.f57)) (gn := Try.f57) (g := 57) (no := 140) (k := 6) (kk := 7) (id := 4) (rid := 1) (rid2 := 0) (ts := #[102, 26]) (tsr := #[]) (xs := [.str s, .str m, .slc false 0 1 0 11 none]) (σ := [.rows false 1 (flQ 1 2), .rows true 2 [u0], .rows true 9 [u1]]) (σ1 := [.rows false 1 (flQ 1 2), .rows true 2 [u0], .rows true 9 [u1], .rows true 1 [[.str s]], .rows true 1 [[.int .i64 0]]]) (y := ([.int .i64 140], tr 3 ++ []))
    rfl Try.func40 (by kernel_rfl) (by kernel_rfl) (by kernel_rfl) (by kernel_rfl) (by kernel_rfl) Try.func57 (by kernel_rfl) (by kernel_rfl) (by kernel_rfl) (by kernel_rfl) (by kernel_rfl) (by kernel_rfl)
    (Pre.one (hFQ_1 u0 u1 s m)) (fun ds => @TripN.deadH (@dsG ⟨ds⟩) _ _ _ _ _ _ _ _ (@D.rFeQ_1 ⟨ds⟩ u0 u1 v0 v1 m s s2 true (right_no _ hne) h (decide_eq_true (by omega)) (right_ok _ rfl) (by have := hasPrefix_ok s m; rw [decide_eq_true hp] at this; exact this)) [true, true, true, true]) (by kernel_rfl) (.inr ⟨117, rfl, rfl⟩) (bFnQ_1 0) (by kernel_rfl) tr3).move [0, 1, 2] (by kernel_rfl) (by kernel_rfl) (by kernel_rfl)
theorem fromQ_no (u0 u1 : List AVal) (s m : ByteArray) (hp : (lB m <+: lB s)) (h : FOk Try.prog 60 [.ptr 0 1 0 0, .slc false 1 1 0 11 none] [.rows true 1 [[.str (s.extract m.size s.size)]], .rows false 1 (flQ 2 3), .rows true 2 [u0], .rows true 9 [u1]] (.pan 117) [.dead, .dead, .dead, .dead]) :
    FOk Try.prog 40 [.str s, .str m, .slc false 0 1 0 11 none] [.rows false 1 (flQ 1 2), .rows true 2 [u0], .rows true 9 [u1]] (.int .i64 140) [.dead, .dead, .dead] :=
  have hl := hp.length_le
  have hl : m.size ≤ s.size := by rw [lB_length, lB_length] at hl; exact hl
  (defer_calls (P := Try.prog) (f := 40) (fn := Try.f40) (c0 := .seq (codeHd (bodyOf Try.f40)) (.seq (.region 1 #[firstOp (codeTail (bodyOf Try.f40))] false) (codeTail (codeTail (bodyOf Try.f40))))) (rest := codeTail (codeTail (bodyOf Try.f40))) (blk := codeTail (bodyOf Try.f57)) (dop := firstOp (codeTail (bodyOf Try.f40))) (rop := firstOp (bodyOf Try.f57)) (gn := Try.f57) (g := 57) (no := 140) (k := 6) (kk := 7) (id := 4) (rid := 1) (rid2 := 0) (ts := #[102, 26]) (tsr := #[]) (xs := [.str s, .str m, .slc false 0 1 0 11 none]) (σ := [.rows false 1 (flQ 1 2), .rows true 2 [u0], .rows true 9 [u1]]) (σ1 := [.rows false 1 (flQ 1 2), .rows true 2 [u0], .rows true 9 [u1], .rows true 1 [[.str s]], .rows true 1 [[.int .i64 0]]]) (y := ([.int .i64 140], tr 3 ++ []))
    rfl Try.func40 (by kernel_rfl) (by kernel_rfl) (by kernel_rfl) (by kernel_rfl) (by kernel_rfl) Try.func57 (by kernel_rfl) (by kernel_rfl) (by kernel_rfl) (by kernel_rfl) (by kernel_rfl) (by kernel_rfl)
    (Pre.one (hFQ_1 u0 u1 s m)) (fun ds => @D.rFnQ_1 ⟨ds⟩ u0 u1 m s h (decide_eq_true (by omega)) (right_ok _ rfl) (by have := hasPrefix_ok s m; rw [decide_eq_true hp] at this; exact this)) (by kernel_rfl) (.inr ⟨117, rfl, rfl⟩) (bFnQ_1 0) (by kernel_rfl) tr3).move [0, 1, 2] (by kernel_rfl) (by kernel_rfl) (by kernel_rfl)
theorem fromQ_mark (u0 u1 : List AVal) (s m : ByteArray) (hp : ¬ (lB m <+: lB s)) :
    FOk Try.prog 40 [.str s, .str m, .slc false 0 1 0 11 none] [.rows false 1 (flQ 1 2), .rows true 2 [u0], .rows true 9 [u1]] (.int .i64 140) [.dead, .dead, .dead] :=
  (defer_calls (P := Try.prog) (f := 40) (fn := Try.f40) (c0 := .seq (codeHd (bodyOf Try.f40)) (.seq (.region 1 #[firstOp (codeTail (bodyOf Try.f40))] false) (codeTail (codeTail (bodyOf Try.f40))))) (rest := codeTail (codeTail (bodyOf Try.f40))) (blk := codeTail (bodyOf Try.f57)) (dop := firstOp (codeTail (bodyOf Try.f40))) (rop := firstOp (bodyOf Try.f57)) (gn := Try.f57) (g := 57) (no := 140) (k := 6) (kk := 7) (id := 4) (rid := 1) (rid2 := 0) (ts := #[102, 26]) (tsr := #[]) (xs := [.str s, .str m, .slc false 0 1 0 11 none]) (σ := [.rows false 1 (flQ 1 2), .rows true 2 [u0], .rows true 9 [u1]]) (σ1 := [.rows false 1 (flQ 1 2), .rows true 2 [u0], .rows true 9 [u1], .rows true 1 [[.str s]], .rows true 1 [[.int .i64 0]]]) (y := ([.int .i64 140], tr 3 ++ []))
    rfl Try.func40 (by kernel_rfl) (by kernel_rfl) (by kernel_rfl) (by kernel_rfl) (by kernel_rfl) Try.func57 (by kernel_rfl) (by kernel_rfl) (by kernel_rfl) (by kernel_rfl) (by kernel_rfl) (by kernel_rfl)
    (Pre.one (hFQ_1 u0 u1 s m)) (fun ds => @TripN.deadH (@dsG ⟨ds⟩) _ _ _ _ _ _ _ _ (@D.rFpQ_1 ⟨ds⟩ u0 u1 m s (right_no _ rfl) (by have := hasPrefix_ok s m; rw [decide_eq_false hp] at this; exact this)) [true, true, true, true]) (by kernel_rfl) (.inr ⟨117, rfl, rfl⟩) (bFnQ_1 0) (by kernel_rfl) tr3).move [0, 1, 2] (by kernel_rfl) (by kernel_rfl) (by kernel_rfl)
end Go.L12
end

section
set_option linter.unusedVariables false
set_option linter.unusedSimpArgs false
set_option maxRecDepth 100000
namespace Go.L12
open Go Go.Abs Go.Proofs

theorem opQ_1 (u0 : List AVal) :
    FOk Try.prog 55 ([AVal.ptr 0 9 0 0]) ([AObj.rows true 9 [u0]]) (AVal.slc false 1 1 0 9 (some 9)) ([AObj.rows true 9 [u0], AObj.rows false 1 [[AVal.iface 100 (AVal.ptr 0 9 0 0)], [AVal.iface 104 (AVal.ptr 0 9 0 1)], [AVal.iface 104 (AVal.ptr 0 9 0 2)], [AVal.iface 104 (AVal.ptr 0 9 0 3)], [AVal.iface 104 (AVal.ptr 0 9 0 4)], [AVal.iface 104 (AVal.ptr 0 9 0 5)], [AVal.iface 104 (AVal.ptr 0 9 0 6)], [AVal.iface 100 (AVal.ptr 0 9 0 7)], [AVal.iface 100 (AVal.ptr 0 9 0 8)]]]) :=
  (evalF_ok followed Try.func55 (by kernel_rfl) (show evalF Try.prog Try.f55 ([AVal.ptr 0 9 0 0]) ([AObj.rows true 9 [u0]]) ([]) = .ok (FRes.mk (AVal.slc false 1 1 0 9 (some 9)) ([AObj.rows true 9 [u0], AObj.rows false 1 [[AVal.iface 100 (AVal.ptr 0 9 0 0)], [AVal.iface 104 (AVal.ptr 0 9 0 1)], [AVal.iface 104 (AVal.ptr 0 9 0 2)], [AVal.iface 104 (AVal.ptr 0 9 0 3)], [AVal.iface 104 (AVal.ptr 0 9 0 4)], [AVal.iface 104 (AVal.ptr 0 9 0 5)], [AVal.iface 104 (AVal.ptr 0 9 0 6)], [AVal.iface 100 (AVal.ptr 0 9 0 7)], [AVal.iface 100 (AVal.ptr 0 9 0 8)]]]) (tr 77 ++ [])) by kernel_rfl) (allP_of (trC 77 trivial))).move ([0, 1]) (by kernel_rfl) (by kernel_rfl) (by kernel_rfl)

theorem wsQ_ok : FOk Try.prog 52 [.ptr 0 2 0 0, .str ⟨#[81]⟩] [.trows 94 false 2 [[.nilp, .fsl true 0 [] (some 0)]]] (.tuple [.int .i64 1, .nili]) [.rows false 2 [[.ptr 0 2 0 0, .slc false 1 1 0 1 none]], .trows 5 true 1 [brow 81]] := ws0_1 ⟨#[81]⟩ (by decide)
end Go.L12
end

section
set_option linter.unusedVariables false
set_option linter.unusedSimpArgs false
set_option maxRecDepth 100000
namespace Go.L12
open Go Go.Abs Go.Proofs

theorem fldQ_1 (u0 u1 : List AVal) :
    FOk Try.prog 49 ([AVal.ptr 0 2 0 0, AVal.ptr 1 9 0 0]) ([AObj.rows true 2 [u0], AObj.rows true 9 [u1]]) (AVal.slc false 2 1 0 11 none) ([AObj.rows true 2 [u0], AObj.rows true 9 [u1], AObj.rows false 1 (flQ 0 1)]) :=
  (evalF_ok followed Try.func49 (by kernel_rfl) (show evalF Try.prog Try.f49 ([AVal.ptr 0 2 0 0, AVal.ptr 1 9 0 0]) ([AObj.rows true 2 [u0], AObj.rows true 9 [u1]]) ([Dec.use [1] [AVal.ptr 0 9 0 0] [AObj.rows true 9 [u1]] (AVal.slc false 1 1 0 9 (some 9)) [AObj.rows true 9 [u1], AObj.rows false 1 [[AVal.iface 100 (AVal.ptr 0 9 0 0)], [AVal.iface 104 (AVal.ptr 0 9 0 1)], [AVal.iface 104 (AVal.ptr 0 9 0 2)], [AVal.iface 104 (AVal.ptr 0 9 0 3)], [AVal.iface 104 (AVal.ptr 0 9 0 4)], [AVal.iface 104 (AVal.ptr 0 9 0 5)], [AVal.iface 104 (AVal.ptr 0 9 0 6)], [AVal.iface 100 (AVal.ptr 0 9 0 7)], [AVal.iface 100 (AVal.ptr 0 9 0 8)]]]]) = .ok (FRes.mk (AVal.slc false 4 1 0 11 none) ([AObj.rows true 2 [u0], AObj.rows true 9 [u1], AObj.dead, AObj.rows false 1 [[AVal.iface 100 (AVal.ptr 1 9 0 0)], [AVal.iface 104 (AVal.ptr 1 9 0 1)], [AVal.iface 104 (AVal.ptr 1 9 0 2)], [AVal.iface 104 (AVal.ptr 1 9 0 3)], [AVal.iface 104 (AVal.ptr 1 9 0 4)], [AVal.iface 104 (AVal.ptr 1 9 0 5)], [AVal.iface 104 (AVal.ptr 1 9 0 6)], [AVal.iface 100 (AVal.ptr 1 9 0 7)], [AVal.iface 100 (AVal.ptr 1 9 0 8)]], AObj.rows false 1 (flQ 0 1)]) (tr 19 ++ ((Owed.use (owed Try.prog 2) 55 [1] [AVal.ptr 1 9 0 0] [AObj.rows true 2 [u0], AObj.rows true 9 [u1], AObj.rows false 1 [[AVal.iface 100 (AVal.ptr 0 2 0 0)], [AVal.iface 100 (AVal.ptr 0 2 0 1)]]] [AVal.ptr 0 9 0 0] [AObj.rows true 9 [u1]] (AVal.slc false 1 1 0 9 (some 9)) [AObj.rows true 9 [u1], AObj.rows false 1 [[AVal.iface 100 (AVal.ptr 0 9 0 0)], [AVal.iface 104 (AVal.ptr 0 9 0 1)], [AVal.iface 104 (AVal.ptr 0 9 0 2)], [AVal.iface 104 (AVal.ptr 0 9 0 3)], [AVal.iface 104 (AVal.ptr 0 9 0 4)], [AVal.iface 104 (AVal.ptr 0 9 0 5)], [AVal.iface 104 (AVal.ptr 0 9 0 6)], [AVal.iface 100 (AVal.ptr 0 9 0 7)], [AVal.iface 100 (AVal.ptr 0 9 0 8)]]]) :: (tr 21 ++ [])))) by kernel_rfl) (allP_of (trC 19 ⟨⟨(@Go.L12.opQ_1 (u1)), rfl, rfl, rfl⟩, (trC 21 trivial)⟩))).move ([0, 1, 4]) (by kernel_rfl) (by kernel_rfl) (by kernel_rfl)

theorem putQ_1 (u0 u1 : List AVal) (l : List UInt8)
    (h1 : FOk Try.prog 54 [AVal.ptr 0 2 0 0] [AObj.rows false 2 [[AVal.ptr 0 2 0 0, AVal.slc false 1 1 0 (List.length l) none]], AObj.trows 5 true 1 (rowsL l)] (AVal.str (bS l)) [AObj.rows false 2 [[AVal.ptr 0 2 0 0, AVal.slc false 1 1 0 (List.length l) none]], AObj.dead])
    (h2 : FOk Try.prog 53 [AVal.ptr 0 2 0 0, AVal.slc false 1 1 0 11 none] [AObj.rows false 2 [[AVal.ptr 0 2 0 0, AVal.slc false 2 1 0 1 none]], AObj.rows false 1 (flQ 3 4), AObj.trows 5 true 1 [[AVal.int IntKind.u8 81]], AObj.rows true 2 [u0], AObj.rows true 9 [u1]] (iI 0) [AObj.rows false 2 [[AVal.ptr 0 2 0 0, AVal.slc false 5 1 0 (List.length l) none]], AObj.rows false 1 (flQ 3 4), AObj.dead, AObj.rows true 2 [u0], AObj.rows true 9 [u1], AObj.trows 5 true 1 (rowsL l)]) :
    FOk Try.prog 33 ([AVal.str (ByteArray.mk #[81]), AVal.slc false 0 1 0 11 none]) ([AObj.rows false 1 (flQ 1 2), AObj.rows true 2 [u0], AObj.rows true 9 [u1]]) (AVal.tuple [AVal.str (bS l), iI 0]) ([AObj.rows false 1 (flQ 1 2), AObj.rows true 2 [u0], AObj.rows true 9 [u1]]) :=
  (evalF_ok followed Try.func33 (by kernel_rfl) (show evalF Try.prog Try.f33 ([AVal.str (ByteArray.mk #[81]), AVal.slc false 0 1 0 11 none]) ([AObj.rows false 1 (flQ 1 2), AObj.rows true 2 [u0], AObj.rows true 9 [u1]]) ([Dec.use [3] [AVal.ptr 0 2 0 0, AVal.str (ByteArray.mk #[81])] [AObj.trows 94 false 2 [[AVal.nilp, AVal.fsl true 0 [] (some 0)]]] (AVal.tuple [iI 1, AVal.nili]) [AObj.rows false 2 [[AVal.ptr 0 2 0 0, AVal.slc false 1 1 0 1 none]], AObj.trows 5 true 1 [[AVal.int IntKind.u8 81]]], Dec.use [3, 0, 4, 1, 2] [AVal.ptr 0 2 0 0, AVal.slc false 1 1 0 11 none] [AObj.rows false 2 [[AVal.ptr 0 2 0 0, AVal.slc false 2 1 0 1 none]], AObj.rows false 1 (flQ 3 4), AObj.trows 5 true 1 [[AVal.int IntKind.u8 81]], AObj.rows true 2 [u0], AObj.rows true 9 [u1]] (iI 0) [AObj.rows false 2 [[AVal.ptr 0 2 0 0, AVal.slc false 5 1 0 (List.length l) none]], AObj.rows false 1 (flQ 3 4), AObj.dead, AObj.rows true 2 [u0], AObj.rows true 9 [u1], AObj.trows 5 true 1 (rowsL l)], Dec.br false, Dec.use [3, 5] [AVal.ptr 0 2 0 0] [AObj.rows false 2 [[AVal.ptr 0 2 0 0, AVal.slc false 1 1 0 (List.length l) none]], AObj.trows 5 true 1 (rowsL l)] (AVal.str (bS l)) [AObj.rows false 2 [[AVal.ptr 0 2 0 0, AVal.slc false 1 1 0 (List.length l) none]], AObj.dead]]) = .ok (FRes.mk (AVal.tuple [AVal.str (bS l), iI 0]) ([AObj.rows false 1 (flQ 1 2), AObj.rows true 2 [u0], AObj.rows true 9 [u1], AObj.rows false 2 [[AVal.ptr 3 2 0 0, AVal.slc false 5 1 0 (List.length l) none]], AObj.dead, AObj.dead]) ((Owed.use (owed Try.prog 3) 54 [3, 5] [AVal.ptr 3 2 0 0] [AObj.rows false 1 (flQ 1 2), AObj.rows true 2 [u0], AObj.rows true 9 [u1], AObj.rows false 2 [[AVal.ptr 3 2 0 0, AVal.slc false 5 1 0 (List.length l) none]], AObj.dead, AObj.trows 5 true 1 (rowsL l)] [AVal.ptr 0 2 0 0] [AObj.rows false 2 [[AVal.ptr 0 2 0 0, AVal.slc false 1 1 0 (List.length l) none]], AObj.trows 5 true 1 (rowsL l)] (AVal.str (bS l)) [AObj.rows false 2 [[AVal.ptr 0 2 0 0, AVal.slc false 1 1 0 (List.length l) none]], AObj.dead]) :: ((false = false) :: ((Owed.use (owed Try.prog 3) 53 [3, 0, 4, 1, 2] [AVal.ptr 3 2 0 0, AVal.slc false 0 1 0 11 none] [AObj.rows false 1 (flQ 1 2), AObj.rows true 2 [u0], AObj.rows true 9 [u1], AObj.rows false 2 [[AVal.ptr 3 2 0 0, AVal.slc false 4 1 0 1 none]], AObj.trows 5 true 1 [[AVal.int IntKind.u8 81]]] [AVal.ptr 0 2 0 0, AVal.slc false 1 1 0 11 none] [AObj.rows false 2 [[AVal.ptr 0 2 0 0, AVal.slc false 2 1 0 1 none]], AObj.rows false 1 (flQ 3 4), AObj.trows 5 true 1 [[AVal.int IntKind.u8 81]], AObj.rows true 2 [u0], AObj.rows true 9 [u1]] (iI 0) [AObj.rows false 2 [[AVal.ptr 0 2 0 0, AVal.slc false 5 1 0 (List.length l) none]], AObj.rows false 1 (flQ 3 4), AObj.dead, AObj.rows true 2 [u0], AObj.rows true 9 [u1], AObj.trows 5 true 1 (rowsL l)]) :: ((Owed.use (owed Try.prog 3) 52 [3] [AVal.ptr 3 2 0 0, AVal.str (ByteArray.mk #[81])] [AObj.rows false 1 (flQ 1 2), AObj.rows true 2 [u0], AObj.rows true 9 [u1], AObj.trows 94 false 2 [[AVal.nilp, AVal.fsl true 0 [] (some 0)]]] [AVal.ptr 0 2 0 0, AVal.str (ByteArray.mk #[81])] [AObj.trows 94 false 2 [[AVal.nilp, AVal.fsl true 0 [] (some 0)]]] (AVal.tuple [iI 1, AVal.nili]) [AObj.rows false 2 [[AVal.ptr 0 2 0 0, AVal.slc false 1 1 0 1 none]], AObj.trows 5 true 1 [[AVal.int IntKind.u8 81]]]) :: []))))) by kernel_rfl) (allP_of ⟨⟨h1, rfl, rfl, rfl⟩, ⟨rfl, ⟨⟨h2, rfl, rfl, rfl⟩, ⟨⟨(@Go.L12.wsQ_ok), rfl, rfl, rfl⟩, trivial⟩⟩⟩⟩)).move ([0, 1, 2]) (by kernel_rfl) (by kernel_rfl) (by kernel_rfl)

def putQ_T (u0 u1 : List AVal) (l : List UInt8) (Q : AVal → AState → Prop) : Prop := (FOk Try.prog 53 [AVal.ptr 0 2 0 0, AVal.slc false 1 1 0 11 none] [AObj.rows false 2 [[AVal.ptr 0 2 0 0, AVal.slc false 2 1 0 1 none]], AObj.rows false 1 (flQ 3 4), AObj.trows 5 true 1 [[AVal.int IntKind.u8 81]], AObj.rows true 2 [u0], AObj.rows true 9 [u1]] (iI 0) [AObj.rows false 2 [[AVal.ptr 0 2 0 0, AVal.slc false 5 1 0 (List.length l) none]], AObj.rows false 1 (flQ 3 4), AObj.dead, AObj.rows true 2 [u0], AObj.rows true 9 [u1], AObj.trows 5 true 1 (rowsL l)]) ∧ (FOk Try.prog 54 [AVal.ptr 0 2 0 0] [AObj.rows false 2 [[AVal.ptr 0 2 0 0, AVal.slc false 1 1 0 (List.length l) none]], AObj.trows 5 true 1 (rowsL l)] (AVal.str (bS l)) [AObj.rows false 2 [[AVal.ptr 0 2 0 0, AVal.slc false 1 1 0 (List.length l) none]], AObj.dead]) ∧ Q (AVal.tuple [AVal.str (bS l), iI 0]) ([AObj.rows false 1 (flQ 1 2), AObj.rows true 2 [u0], AObj.rows true 9 [u1]])
theorem putQ_wp (u0 u1 : List AVal) (l : List UInt8) {Q : AVal → AState → Prop} (h : putQ_T u0 u1 l Q) : ∃ r σ', FOk Try.prog 33 ([AVal.str (ByteArray.mk #[81]), AVal.slc false 0 1 0 11 none]) ([AObj.rows false 1 (flQ 1 2), AObj.rows true 2 [u0], AObj.rows true 9 [u1]]) r σ' ∧ Q r σ' :=
  ⟨_, _, putQ_1 u0 u1 l (h.2.1) (h.1), h.2.2⟩


end Go.L12
end

section
set_option linter.unusedVariables false
set_option linter.unusedSimpArgs false
set_option maxRecDepth 100000
namespace Go.L12
open Go Go.Abs Go.Proofs

theorem put33Q_ok (u0 u1 : List AVal) (hk : kQ u0 u1) (b : List UInt8) (hb : seqO (fpQ u0 u1) 11 0 = some b) :
    FOk Try.prog 33 [.str ⟨#[81]⟩, .slc false 0 1 0 11 none] [.rows false 1 (flQ 1 2), .rows true 2 [u0], .rows true 9 [u1]] (.tuple [.str (bS (81 :: b)), .int .i64 0]) [.rows false 1 (flQ 1 2), .rows true 2 [u0], .rows true 9 [u1]] := by
  have hlen := seqO_len (fun i b h => putF_len h) 11 0 b hb
  have hp := putsQ_ok u0 u1 hk [81] b (by simp) hb
  rw [show rowsL [81] = [brow 81] from by kernel_rfl] at hp
  have ht := triedQ_ok u0 u1 1 ([81] ++ b).length [brow 81] (rowsL ([81] ++ b)) hp
  refine FOk.wp (putQ_wp u0 u1 (81 :: b) ?_)
  unfold putQ_T
  exact ⟨ht, bst_ok (81 :: b) _ (List.length_map _).symm (by simp) (by simp; omega), rfl, rfl⟩
end Go.L12
end

section
set_option linter.unusedVariables false
set_option linter.unusedSimpArgs false
set_option maxRecDepth 100000
namespace Go.L12
open Go Go.Abs Go.Proofs

theorem PutQ_1 (a0 a1 b0 : Int) (b1 b2 b3 b4 b5 b6 : ByteArray) (b7 b8 : Int) (s : ByteArray) (e : Int)
    (h1 : FOk Try.prog 33 [AVal.str (ByteArray.mk #[81]), AVal.slc false 0 1 0 11 none] [AObj.rows false 1 (flQ 1 2), AObj.rows true 2 [[iI a0, iI a1]], AObj.rows true 9 [(rQ b0 b1 b2 b3 b4 b5 b6 b7 b8)]] (AVal.tuple [AVal.str s, iI e]) [AObj.rows false 1 (flQ 1 2), AObj.rows true 2 [[iI a0, iI a1]], AObj.rows true 9 [(rQ b0 b1 b2 b3 b4 b5 b6 b7 b8)]]) :
    FOk Try.prog 29 ([AVal.agg [iI a0, iI a1], AVal.agg (rQ b0 b1 b2 b3 b4 b5 b6 b7 b8)]) ([]) (AVal.tuple [AVal.str s, iI e]) ([]) :=
  (evalF_ok followed Try.func29 (by kernel_rfl) (show evalF Try.prog Try.f29 ([AVal.agg [iI a0, iI a1], AVal.agg (rQ b0 b1 b2 b3 b4 b5 b6 b7 b8)]) ([]) ([Dec.use [0, 1] [AVal.ptr 0 2 0 0, AVal.ptr 1 9 0 0] [AObj.rows true 2 [[iI a0, iI a1]], AObj.rows true 9 [(rQ b0 b1 b2 b3 b4 b5 b6 b7 b8)]] (AVal.slc false 2 1 0 11 none) [AObj.rows true 2 [[iI a0, iI a1]], AObj.rows true 9 [(rQ b0 b1 b2 b3 b4 b5 b6 b7 b8)], AObj.rows false 1 (flQ 0 1)], Dec.use [2, 0, 1] [AVal.str (ByteArray.mk #[81]), AVal.slc false 0 1 0 11 none] [AObj.rows false 1 (flQ 1 2), AObj.rows true 2 [[iI a0, iI a1]], AObj.rows true 9 [(rQ b0 b1 b2 b3 b4 b5 b6 b7 b8)]] (AVal.tuple [AVal.str s, iI e]) [AObj.rows false 1 (flQ 1 2), AObj.rows true 2 [[iI a0, iI a1]], AObj.rows true 9 [(rQ b0 b1 b2 b3 b4 b5 b6 b7 b8)]]]) = .ok (FRes.mk (AVal.tuple [AVal.str s, iI e]) ([AObj.rows true 2 [[iI a0, iI a1]], AObj.rows true 9 [(rQ b0 b1 b2 b3 b4 b5 b6 b7 b8)], AObj.rows false 1 (flQ 0 1)]) ((Owed.use (owed Try.prog 0) 33 [2, 0, 1] [AVal.str (ByteArray.mk #[81]), AVal.slc false 2 1 0 11 none] [AObj.rows true 2 [[iI a0, iI a1]], AObj.rows true 9 [(rQ b0 b1 b2 b3 b4 b5 b6 b7 b8)], AObj.rows false 1 (flQ 0 1)] [AVal.str (ByteArray.mk #[81]), AVal.slc false 0 1 0 11 none] [AObj.rows false 1 (flQ 1 2), AObj.rows true 2 [[iI a0, iI a1]], AObj.rows true 9 [(rQ b0 b1 b2 b3 b4 b5 b6 b7 b8)]] (AVal.tuple [AVal.str s, iI e]) [AObj.rows false 1 (flQ 1 2), AObj.rows true 2 [[iI a0, iI a1]], AObj.rows true 9 [(rQ b0 b1 b2 b3 b4 b5 b6 b7 b8)]]) :: ((Owed.use (owed Try.prog 0) 49 [0, 1] [AVal.ptr 0 2 0 0, AVal.ptr 1 9 0 0] [AObj.rows true 2 [[iI a0, iI a1]], AObj.rows true 9 [(rQ b0 b1 b2 b3 b4 b5 b6 b7 b8)]] [AVal.ptr 0 2 0 0, AVal.ptr 1 9 0 0] [AObj.rows true 2 [[iI a0, iI a1]], AObj.rows true 9 [(rQ b0 b1 b2 b3 b4 b5 b6 b7 b8)]] (AVal.slc false 2 1 0 11 none) [AObj.rows true 2 [[iI a0, iI a1]], AObj.rows true 9 [(rQ b0 b1 b2 b3 b4 b5 b6 b7 b8)], AObj.rows false 1 (flQ 0 1)]) :: []))) by kernel_rfl) (allP_of ⟨⟨h1, rfl, rfl, rfl⟩, ⟨⟨(@Go.L12.fldQ_1 ([iI a0, iI a1]) ((rQ b0 b1 b2 b3 b4 b5 b6 b7 b8))), rfl, rfl, rfl⟩, trivial⟩⟩)).move ([]) (by kernel_rfl) (by kernel_rfl) (by kernel_rfl)

def PutQ_T (a0 a1 b0 : Int) (b1 b2 b3 b4 b5 b6 : ByteArray) (b7 b8 : Int) (s : ByteArray) (e : Int) (Q : AVal → AState → Prop) : Prop := (FOk Try.prog 33 [AVal.str (ByteArray.mk #[81]), AVal.slc false 0 1 0 11 none] [AObj.rows false 1 (flQ 1 2), AObj.rows true 2 [[iI a0, iI a1]], AObj.rows true 9 [(rQ b0 b1 b2 b3 b4 b5 b6 b7 b8)]] (AVal.tuple [AVal.str s, iI e]) [AObj.rows false 1 (flQ 1 2), AObj.rows true 2 [[iI a0, iI a1]], AObj.rows true 9 [(rQ b0 b1 b2 b3 b4 b5 b6 b7 b8)]]) ∧ Q (AVal.tuple [AVal.str s, iI e]) ([])
theorem PutQ_wp (a0 a1 b0 : Int) (b1 b2 b3 b4 b5 b6 : ByteArray) (b7 b8 : Int) (s : ByteArray) (e : Int) {Q : AVal → AState → Prop} (h : PutQ_T a0 a1 b0 b1 b2 b3 b4 b5 b6 b7 b8 s e Q) : ∃ r σ', FOk Try.prog 29 ([AVal.agg [iI a0, iI a1], AVal.agg (rQ b0 b1 b2 b3 b4 b5 b6 b7 b8)]) ([]) r σ' ∧ Q r σ' :=
  ⟨_, _, PutQ_1 a0 a1 b0 b1 b2 b3 b4 b5 b6 b7 b8 s e (h.1), h.2⟩


theorem FromQ_1 (a0 a1 b0 : Int) (b1 b2 b3 b4 b5 b6 : ByteArray) (b7 b8 : Int) (s : ByteArray)
    (h1 : FOk Try.prog 40 [AVal.str s, AVal.str (ByteArray.mk #[81]), AVal.slc false 0 1 0 11 none] [AObj.rows false 1 (flQ 1 2), AObj.rows true 2 [[iI 0, iI 0]], AObj.rows true 9 [rQ0]] (iI 0) [AObj.rows false 1 (flQ 1 2), AObj.rows true 2 [[iI a0, iI a1]], AObj.rows true 9 [(rQ b0 b1 b2 b3 b4 b5 b6 b7 b8)]]) :
    FOk Try.prog 24 ([AVal.str s]) ([]) (AVal.tuple [AVal.agg [iI a0, iI a1], AVal.agg (rQ b0 b1 b2 b3 b4 b5 b6 b7 b8), iI 0]) ([]) :=
  (evalF_ok followed Try.func24 (by kernel_rfl) (show evalF Try.prog Try.f24 ([AVal.str s]) ([]) ([Dec.use [2, 3] [AVal.ptr 0 2 0 0, AVal.ptr 1 9 0 0] [AObj.rows true 2 [[iI 0, iI 0]], AObj.rows true 9 [rQ0]] (AVal.slc false 2 1 0 11 none) [AObj.rows true 2 [[iI 0, iI 0]], AObj.rows true 9 [rQ0], AObj.rows false 1 (flQ 0 1)], Dec.use [4, 2, 3] [AVal.str s, AVal.str (ByteArray.mk #[81]), AVal.slc false 0 1 0 11 none] [AObj.rows false 1 (flQ 1 2), AObj.rows true 2 [[iI 0, iI 0]], AObj.rows true 9 [rQ0]] (iI 0) [AObj.rows false 1 (flQ 1 2), AObj.rows true 2 [[iI a0, iI a1]], AObj.rows true 9 [(rQ b0 b1 b2 b3 b4 b5 b6 b7 b8)]], Dec.br false]) = .ok (FRes.mk (AVal.tuple [AVal.agg [iI a0, iI a1], AVal.agg (rQ b0 b1 b2 b3 b4 b5 b6 b7 b8), iI 0]) ([AObj.rows true 2 [[iI a0, iI a1]], AObj.rows true 9 [(rQ b0 b1 b2 b3 b4 b5 b6 b7 b8)], AObj.rows true 2 [[iI a0, iI a1]], AObj.rows true 9 [(rQ b0 b1 b2 b3 b4 b5 b6 b7 b8)], AObj.rows false 1 (flQ 2 3)]) (tr 29 ++ ((false = false) :: ((Owed.use (owed Try.prog 0) 40 [4, 2, 3] [AVal.str s, AVal.str (ByteArray.mk #[81]), AVal.slc false 4 1 0 11 none] [AObj.rows true 2 [[iI 0, iI 0]], AObj.rows true 9 [rQ0], AObj.rows true 2 [[iI 0, iI 0]], AObj.rows true 9 [rQ0], AObj.rows false 1 (flQ 2 3)] [AVal.str s, AVal.str (ByteArray.mk #[81]), AVal.slc false 0 1 0 11 none] [AObj.rows false 1 (flQ 1 2), AObj.rows true 2 [[iI 0, iI 0]], AObj.rows true 9 [rQ0]] (iI 0) [AObj.rows false 1 (flQ 1 2), AObj.rows true 2 [[iI a0, iI a1]], AObj.rows true 9 [(rQ b0 b1 b2 b3 b4 b5 b6 b7 b8)]]) :: ((Owed.use (owed Try.prog 0) 49 [2, 3] [AVal.ptr 2 2 0 0, AVal.ptr 3 9 0 0] [AObj.rows true 2 [[iI 0, iI 0]], AObj.rows true 9 [rQ0], AObj.rows true 2 [[iI 0, iI 0]], AObj.rows true 9 [rQ0]] [AVal.ptr 0 2 0 0, AVal.ptr 1 9 0 0] [AObj.rows true 2 [[iI 0, iI 0]], AObj.rows true 9 [rQ0]] (AVal.slc false 2 1 0 11 none) [AObj.rows true 2 [[iI 0, iI 0]], AObj.rows true 9 [rQ0], AObj.rows false 1 (flQ 0 1)]) :: []))))) by kernel_rfl) (allP_of (trC 29 ⟨rfl, ⟨⟨h1, rfl, rfl, rfl⟩, ⟨⟨(@Go.L12.fldQ_1 ([iI 0, iI 0]) (rQ0)), rfl, rfl, rfl⟩, trivial⟩⟩⟩))).move ([]) (by kernel_rfl) (by kernel_rfl) (by kernel_rfl)

def FromQ_T (a0 a1 b0 : Int) (b1 b2 b3 b4 b5 b6 : ByteArray) (b7 b8 : Int) (s : ByteArray) (Q : AVal → AState → Prop) : Prop := (FOk Try.prog 40 [AVal.str s, AVal.str (ByteArray.mk #[81]), AVal.slc false 0 1 0 11 none] [AObj.rows false 1 (flQ 1 2), AObj.rows true 2 [[iI 0, iI 0]], AObj.rows true 9 [rQ0]] (iI 0) [AObj.rows false 1 (flQ 1 2), AObj.rows true 2 [[iI a0, iI a1]], AObj.rows true 9 [(rQ b0 b1 b2 b3 b4 b5 b6 b7 b8)]]) ∧ Q (AVal.tuple [AVal.agg [iI a0, iI a1], AVal.agg (rQ b0 b1 b2 b3 b4 b5 b6 b7 b8), iI 0]) ([])
theorem FromQ_wp (a0 a1 b0 : Int) (b1 b2 b3 b4 b5 b6 : ByteArray) (b7 b8 : Int) (s : ByteArray) {Q : AVal → AState → Prop} (h : FromQ_T a0 a1 b0 b1 b2 b3 b4 b5 b6 b7 b8 s Q) : ∃ r σ', FOk Try.prog 24 ([AVal.str s]) ([]) r σ' ∧ Q r σ' :=
  ⟨_, _, FromQ_1 a0 a1 b0 b1 b2 b3 b4 b5 b6 b7 b8 s (h.1), h.2⟩


theorem FromNQ_1 (s : ByteArray)
    (h1 : FOk Try.prog 40 [AVal.str s, AVal.str (ByteArray.mk #[81]), AVal.slc false 0 1 0 11 none] [AObj.rows false 1 (flQ 1 2), AObj.rows true 2 [[iI 0, iI 0]], AObj.rows true 9 [rQ0]] (iI 140) [AObj.dead, AObj.dead, AObj.dead]) :
    FOk Try.prog 24 ([AVal.str s]) ([]) (AVal.tuple [AVal.agg [iI 0, iI 0], AVal.agg rQ0, iI 140]) ([]) :=
  (evalF_ok followed Try.func24 (by kernel_rfl) (show evalF Try.prog Try.f24 ([AVal.str s]) ([]) ([Dec.use [2, 3] [AVal.ptr 0 2 0 0, AVal.ptr 1 9 0 0] [AObj.rows true 2 [[iI 0, iI 0]], AObj.rows true 9 [rQ0]] (AVal.slc false 2 1 0 11 none) [AObj.rows true 2 [[iI 0, iI 0]], AObj.rows true 9 [rQ0], AObj.rows false 1 (flQ 0 1)], Dec.use [4, 2, 3] [AVal.str s, AVal.str (ByteArray.mk #[81]), AVal.slc false 0 1 0 11 none] [AObj.rows false 1 (flQ 1 2), AObj.rows true 2 [[iI 0, iI 0]], AObj.rows true 9 [rQ0]] (iI 140) [AObj.dead, AObj.dead, AObj.dead], Dec.br true]) = .ok (FRes.mk (AVal.tuple [AVal.agg [iI 0, iI 0], AVal.agg rQ0, iI 140]) ([AObj.rows true 2 [[iI 0, iI 0]], AObj.rows true 9 [rQ0], AObj.dead, AObj.dead, AObj.dead]) (tr 11 ++ ((Owed.use (owed Try.prog 0) 40 [4, 2, 3] [AVal.str s, AVal.str (ByteArray.mk #[81]), AVal.slc false 4 1 0 11 none] [AObj.rows true 2 [[iI 0, iI 0]], AObj.rows true 9 [rQ0], AObj.rows true 2 [[iI 0, iI 0]], AObj.rows true 9 [rQ0], AObj.rows false 1 (flQ 2 3)] [AVal.str s, AVal.str (ByteArray.mk #[81]), AVal.slc false 0 1 0 11 none] [AObj.rows false 1 (flQ 1 2), AObj.rows true 2 [[iI 0, iI 0]], AObj.rows true 9 [rQ0]] (iI 140) [AObj.dead, AObj.dead, AObj.dead]) :: ((Owed.use (owed Try.prog 0) 49 [2, 3] [AVal.ptr 2 2 0 0, AVal.ptr 3 9 0 0] [AObj.rows true 2 [[iI 0, iI 0]], AObj.rows true 9 [rQ0], AObj.rows true 2 [[iI 0, iI 0]], AObj.rows true 9 [rQ0]] [AVal.ptr 0 2 0 0, AVal.ptr 1 9 0 0] [AObj.rows true 2 [[iI 0, iI 0]], AObj.rows true 9 [rQ0]] (AVal.slc false 2 1 0 11 none) [AObj.rows true 2 [[iI 0, iI 0]], AObj.rows true 9 [rQ0], AObj.rows false 1 (flQ 0 1)]) :: [])))) by kernel_rfl) (allP_of (trC 11 ⟨⟨h1, rfl, rfl, rfl⟩, ⟨⟨(@Go.L12.fldQ_1 ([iI 0, iI 0]) (rQ0)), rfl, rfl, rfl⟩, trivial⟩⟩))).move ([]) (by kernel_rfl) (by kernel_rfl) (by kernel_rfl)

def FromNQ_T (s : ByteArray) (Q : AVal → AState → Prop) : Prop := (FOk Try.prog 40 [AVal.str s, AVal.str (ByteArray.mk #[81]), AVal.slc false 0 1 0 11 none] [AObj.rows false 1 (flQ 1 2), AObj.rows true 2 [[iI 0, iI 0]], AObj.rows true 9 [rQ0]] (iI 140) [AObj.dead, AObj.dead, AObj.dead]) ∧ Q (AVal.tuple [AVal.agg [iI 0, iI 0], AVal.agg rQ0, iI 140]) ([])
theorem FromNQ_wp (s : ByteArray) {Q : AVal → AState → Prop} (h : FromNQ_T s Q) : ∃ r σ', FOk Try.prog 24 ([AVal.str s]) ([]) r σ' ∧ Q r σ' :=
  ⟨_, _, FromNQ_1 s (h.1), h.2⟩


end Go.L12
end

section
set_option linter.unusedVariables false
set_option linter.unusedSimpArgs false
set_option maxRecDepth 100000
namespace Go.L12
open Go Go.Abs Go.Proofs

def TQ : List Nat := [100, 100, 100, 104, 104, 104, 104, 104, 104, 100, 100]
abbrev vsQ (a0 a1 b0 : Int) (b1 b2 b3 b4 b5 b6 : ByteArray) (b7 b8 : Int) : List AVal := [.int .i64 a0, .int .i64 a1, .int .i64 b0, .str b1, .str b2, .str b3, .str b4, .str b5, .str b6, .int .i64 b7, .int .i64 b8]
abbrev clQ0 (a0 a1 b0 : Int) (b1 b2 b3 b4 b5 b6 : ByteArray) (b7 b8 : Int) : List AVal := [.int .i64 a0, .int .i64 a1]
abbrev clQ1 (a0 a1 b0 : Int) (b1 b2 b3 b4 b5 b6 : ByteArray) (b7 b8 : Int) : List AVal := (rQ b0 b1 b2 b3 b4 b5 b6 b7 b8)
def bdQ (a0 a1 b0 b7 b8 : Int) : Prop := (-9223372036854775808 ≤ a0 ∧ a0 < 9223372036854775808) ∧ (-9223372036854775808 ≤ a1 ∧ a1 < 9223372036854775808) ∧ (-9223372036854775808 ≤ b0 ∧ b0 < 9223372036854775808) ∧ (-9223372036854775808 ≤ b7 ∧ b7 < 9223372036854775808) ∧ (-9223372036854775808 ≤ b8 ∧ b8 < 9223372036854775808)
theorem typedQ {vs : List AVal} (h : allF TQ vs) : ∃ (a0 : Int) (a1 : Int) (b0 : Int) (b1 : ByteArray) (b2 : ByteArray) (b3 : ByteArray) (b4 : ByteArray) (b5 : ByteArray) (b6 : ByteArray) (b7 : Int) (b8 : Int), vs = vsQ a0 a1 b0 b1 b2 b3 b4 b5 b6 b7 b8 := by
  obtain ⟨a0, w0, e0, h0⟩ := unI h
  obtain ⟨a1, w1, e1, h1⟩ := unI h0
  obtain ⟨b0, w2, e2, h2⟩ := unI h1
  obtain ⟨b1, w3, e3, h3⟩ := unS h2
  obtain ⟨b2, w4, e4, h4⟩ := unS h3
  obtain ⟨b3, w5, e5, h5⟩ := unS h4
  obtain ⟨b4, w6, e6, h6⟩ := unS h5
  obtain ⟨b5, w7, e7, h7⟩ := unS h6
  obtain ⟨b6, w8, e8, h8⟩ := unS h7
  obtain ⟨b7, w9, e9, h9⟩ := unI h8
  obtain ⟨b8, w10, e10, h10⟩ := unI h9
  have e := unN h10
  subst e
  subst e10
  subst e9
  subst e8
  subst e7
  subst e6
  subst e5
  subst e4
  subst e3
  subst e2
  subst e1
  subst e0
  exact ⟨a0, a1, b0, b1, b2, b3, b4, b5, b6, b7, b8, rfl⟩
theorem seqO_Q (a0 a1 b0 : Int) (b1 b2 b3 b4 b5 b6 : ByteArray) (b7 b8 : Int) : seqO (fpQ (clQ0 a0 a1 b0 b1 b2 b3 b4 b5 b6 b7 b8) (clQ1 a0 a1 b0 b1 b2 b3 b4 b5 b6 b7 b8)) 11 0 = putAll TQ (vsQ a0 a1 b0 b1 b2 b3 b4 b5 b6 b7 b8) := by
  rw [seqO_all (fun i => (FQ.getD i (0, 0, 0)).1) (fun i => (objQ (clQ0 a0 a1 b0 b1 b2 b3 b4 b5 b6 b7 b8) (clQ1 a0 a1 b0 b1 b2 b3 b4 b5 b6 b7 b8) (FQ.getD i (0, 0, 0)).2.1).getD (FQ.getD i (0, 0, 0)).2.2 .any) (fpQ (clQ0 a0 a1 b0 b1 b2 b3 b4 b5 b6 b7 b8) (clQ1 a0 a1 b0 b1 b2 b3 b4 b5 b6 b7 b8)) (fun i => rfl)]
  rfl
theorem kkQ (a0 a1 b0 : Int) (b1 b2 b3 b4 b5 b6 : ByteArray) (b7 b8 : Int) (hb : bdQ a0 a1 b0 b7 b8) : kQ (clQ0 a0 a1 b0 b1 b2 b3 b4 b5 b6 b7 b8) (clQ1 a0 a1 b0 b1 b2 b3 b4 b5 b6 b7 b8)
  | 0, _ => ⟨_, rfl, hb.1⟩
  | 1, _ => ⟨_, rfl, hb.2.1⟩
  | 2, _ => ⟨_, rfl, hb.2.2.1⟩
  | 3, _ => ⟨_, rfl⟩
  | 4, _ => ⟨_, rfl⟩
  | 5, _ => ⟨_, rfl⟩
  | 6, _ => ⟨_, rfl⟩
  | 7, _ => ⟨_, rfl⟩
  | 8, _ => ⟨_, rfl⟩
  | 9, _ => ⟨_, rfl, hb.2.2.2.1⟩
  | 10, _ => ⟨_, rfl, hb.2.2.2.2⟩
  | n + 11, h => absurd h (by omega)
theorem putQ_ok (a0 a1 b0 : Int) (b1 b2 b3 b4 b5 b6 : ByteArray) (b7 b8 : Int) (hb : bdQ a0 a1 b0 b7 b8) (b : List UInt8) (h : putAll TQ (vsQ a0 a1 b0 b1 b2 b3 b4 b5 b6 b7 b8) = some b) : FOk Try.prog 29 [.agg (clQ0 a0 a1 b0 b1 b2 b3 b4 b5 b6 b7 b8), .agg (clQ1 a0 a1 b0 b1 b2 b3 b4 b5 b6 b7 b8)] [] (.tuple [.str (bS (81 :: b)), .int .i64 0]) [] := by
  refine FOk.wp (PutQ_wp a0 a1 b0 b1 b2 b3 b4 b5 b6 b7 b8 (bS (81 :: b)) 0 ?_)
  unfold PutQ_T
  exact ⟨put33Q_ok (clQ0 a0 a1 b0 b1 b2 b3 b4 b5 b6 b7 b8) (clQ1 a0 a1 b0 b1 b2 b3 b4 b5 b6 b7 b8) (kkQ a0 a1 b0 b1 b2 b3 b4 b5 b6 b7 b8 hb) b (by rw [seqO_Q]; exact h), rfl, rfl⟩
theorem osQ (a0 a1 b0 : Int) (b1 b2 b3 b4 b5 b6 : ByteArray) (b7 b8 : Int) : putAll TQ (vsQ a0 a1 b0 b1 b2 b3 b4 b5 b6 b7 b8) = seqL [pI a0, pI a1, pI b0, pS b1, pS b2, pS b3, pS b4, pS b5, pS b6, pI b7, pI b8] := by
  rw [putAll_L]
  rfl
def zeroQ : List AVal × List AVal := ([.int .i64 0, .int .i64 0], rQ0)
def setQ (i : Nat) (u : List AVal × List AVal) (v : AVal) : List AVal × List AVal := if (FQ.getD i (0, 0, 0)).2.1 = 0 then (u.1.set (FQ.getD i (0, 0, 0)).2.2 v, u.2) else (u.1, u.2.set (FQ.getD i (0, 0, 0)).2.2 v)
theorem seqG_Q (s : ByteArray) : seqG gtQ 11 0 zeroQ s = (takeAll TQ s).map fun y => (setAll setQ 0 zeroQ y.1, y.2) := by
  rw [seqG_all (fun i => (FQ.getD i (0, 0, 0)).1) setQ gtQ (fun i u s => rfl)]
  rfl
theorem set_Q (a0 a1 b0 : Int) (b1 b2 b3 b4 b5 b6 : ByteArray) (b7 b8 : Int) : setAll setQ 0 zeroQ (vsQ a0 a1 b0 b1 b2 b3 b4 b5 b6 b7 b8) = (clQ0 a0 a1 b0 b1 b2 b3 b4 b5 b6 b7 b8, clQ1 a0 a1 b0 b1 b2 b3 b4 b5 b6 b7 b8) := by kernel_rfl
theorem preQ {s s' : ByteArray} (h : lB s = UInt8.ofNat 81 :: lB s') : (lB (ByteArray.mk #[81]) <+: lB s) ∧ s.extract (ByteArray.mk #[81]).size s.size = s' := by
  constructor
  · exact ⟨lB s', h.symm⟩
  · have e := mk_of h
    unfold mk at e
    split at e
    · exact congrArg Prod.fst e
    · have := congrArg Prod.snd e; cases this
theorem fromQ_is {s : ByteArray} (a0 : Int) (a1 : Int) (b0 : Int) (b1 : ByteArray) (b2 : ByteArray) (b3 : ByteArray) (b4 : ByteArray) (b5 : ByteArray) (b6 : ByteArray) (b7 : Int) (b8 : Int) (h : Is 81 TQ s (vsQ a0 a1 b0 b1 b2 b3 b4 b5 b6 b7 b8)) : FOk Try.prog 24 [.str s] [] (.tuple [.agg (clQ0 a0 a1 b0 b1 b2 b3 b4 b5 b6 b7 b8), .agg (clQ1 a0 a1 b0 b1 b2 b3 b4 b5 b6 b7 b8), .int .i64 0]) [] := by
  obtain ⟨s', h1, h2⟩ := h
  obtain ⟨p1, p2⟩ := preQ h1
  refine FOk.wp (FromQ_wp a0 a1 b0 b1 b2 b3 b4 b5 b6 b7 b8 s ?_)
  unfold FromQ_T
  have ht := takesQ_ok zeroQ s' ((clQ0 a0 a1 b0 b1 b2 b3 b4 b5 b6 b7 b8, clQ1 a0 a1 b0 b1 b2 b3 b4 b5 b6 b7 b8), ⟨#[]⟩) (by rw [seqG_Q, h2]; exact congrArg (fun x => some (x, (⟨#[]⟩ : ByteArray))) (set_Q a0 a1 b0 b1 b2 b3 b4 b5 b6 b7 b8))
  rw [← p2] at ht
  exact ⟨fromQ_ok [.int .i64 0, .int .i64 0] rQ0 (clQ0 a0 a1 b0 b1 b2 b3 b4 b5 b6 b7 b8) (clQ1 a0 a1 b0 b1 b2 b3 b4 b5 b6 b7 b8) s ⟨#[81]⟩ p1 ht, rfl, rfl⟩
theorem fromQ_none {s : ByteArray} (h : ∀ vs, ¬ Is 81 TQ s vs) : FOk Try.prog 24 [.str s] [] (.tuple [.agg [.int .i64 0, .int .i64 0], .agg rQ0, .int .i64 140]) [] := by
  refine FOk.wp (FromNQ_wp s ?_)
  unfold FromNQ_T
  refine ⟨?_, rfl, rfl⟩
  by_cases hp : lB (ByteArray.mk #[81]) <+: lB s
  · obtain ⟨t, ht⟩ := hp
    have h1 : lB s = UInt8.ofNat 81 :: lB (bS t) := by rw [lB_bS]; exact ht.symm
    obtain ⟨p1, p2⟩ := preQ h1
    cases hs : takeAll TQ (bS t) with
    | none =>
      have hx := takesQ_no zeroQ (bS t) (by rw [seqG_Q, hs]; rfl)
      rw [← p2] at hx
      exact fromQ_no [.int .i64 0, .int .i64 0] rQ0 s ⟨#[81]⟩ p1 hx
    | some y =>
      have hx := takesQ_ok zeroQ (bS t) (setAll setQ 0 zeroQ y.1, y.2) (by rw [seqG_Q, hs]; rfl)
      rw [← p2] at hx
      refine fromQ_more [.int .i64 0, .int .i64 0] rQ0 (setAll setQ 0 zeroQ y.1).1 (setAll setQ 0 zeroQ y.1).2 s ⟨#[81]⟩ y.2 p1 (fun h0 => h y.1 ⟨bS t, h1, ?_⟩) hx
      have : y.2 = ⟨#[]⟩ := lB_inj (List.eq_nil_of_length_eq_zero (by rw [lB_length]; exact h0))
      rw [hs, ← this]
  · exact fromQ_mark [.int .i64 0, .int .i64 0] rQ0 s ⟨#[81]⟩ hp
end Go.L12
end

section
set_option linter.unusedVariables false
set_option maxRecDepth 100000
namespace Go.L12
open Go Go.Abs Go.Proofs
theorem awake_1 (x y : ByteArray) (a0 a3 a4 : Int)
    (h1 : FOk Try.prog 17 [AVal.str x] [] (AVal.tuple [AVal.agg (rC 9 0 0 0 (ByteArray.mk #[]) (ByteArray.mk #[]) (ByteArray.mk #[]) (ByteArray.mk #[]) (ByteArray.mk #[]) (ByteArray.mk #[]) 0 0 0 0 3 0 0 false 0 (ByteArray.mk #[])), iI 0]) [])
    (h2 : FOk Try.prog 15 [AVal.agg (rC 9 0 0 0 (ByteArray.mk #[]) (ByteArray.mk #[]) (ByteArray.mk #[]) (ByteArray.mk #[]) (ByteArray.mk #[]) (ByteArray.mk #[]) 0 0 0 0 3 0 0 false 0 (ByteArray.mk #[]))] [] (AVal.tuple [AVal.str x, iI 0]) [])
    (h3 : FOk Try.prog 29 [AVal.agg [iI 5, iI 1], AVal.agg (rQ 6 (ByteArray.mk #[119]) (ByteArray.mk #[]) (ByteArray.mk #[]) (ByteArray.mk #[]) (ByteArray.mk #[]) (ByteArray.mk #[]) 0 0)] [] (AVal.tuple [AVal.str (ByteArray.mk #[81, 5, 1, 6, 1, 119, 0, 0, 0, 0, 0, 0, 0]), iI 0]) []) :
    FOk Try.prog 14 ([]) ([]) (AVal.bool true) ([]) :=
  (evalF_ok followed Try.func14 (by kernel_rfl) (show evalF Try.prog Try.f14 ([]) ([]) ([Dec.use [] [AVal.agg [iI 5, iI 1], AVal.agg (rQ 6 (ByteArray.mk #[119]) (ByteArray.mk #[]) (ByteArray.mk #[]) (ByteArray.mk #[]) (ByteArray.mk #[]) (ByteArray.mk #[]) 0 0)] [] (AVal.tuple [AVal.str (ByteArray.mk #[81, 5, 1, 6, 1, 119, 0, 0, 0, 0, 0, 0, 0]), iI 0]) [], Dec.use [] [AVal.agg (rC 9 0 0 0 (ByteArray.mk #[]) (ByteArray.mk #[]) (ByteArray.mk #[]) (ByteArray.mk #[]) (ByteArray.mk #[]) (ByteArray.mk #[]) 0 0 0 0 3 0 0 false 0 (ByteArray.mk #[]))] [] (AVal.tuple [AVal.str x, iI 0]) [], Dec.use [] [AVal.str x] [] (AVal.tuple [AVal.agg (rC 9 0 0 0 (ByteArray.mk #[]) (ByteArray.mk #[]) (ByteArray.mk #[]) (ByteArray.mk #[]) (ByteArray.mk #[]) (ByteArray.mk #[]) 0 0 0 0 3 0 0 false 0 (ByteArray.mk #[])), iI 0]) [], Dec.br true, Dec.br true, Dec.br true, Dec.br true]) = .ok (FRes.mk (AVal.bool true) ([AObj.rows true 20 [(rC 9 0 0 0 (ByteArray.mk #[]) (ByteArray.mk #[]) (ByteArray.mk #[]) (ByteArray.mk #[]) (ByteArray.mk #[]) (ByteArray.mk #[]) 0 0 0 0 3 0 0 false 0 (ByteArray.mk #[]))]]) (tr 9 ++ ((Owed.use (owed Try.prog 0) 17 [] [AVal.str x] [] [AVal.str x] [] (AVal.tuple [AVal.agg (rC 9 0 0 0 (ByteArray.mk #[]) (ByteArray.mk #[]) (ByteArray.mk #[]) (ByteArray.mk #[]) (ByteArray.mk #[]) (ByteArray.mk #[]) 0 0 0 0 3 0 0 false 0 (ByteArray.mk #[])), iI 0]) []) :: ((Owed.use (owed Try.prog 0) 15 [] [AVal.agg (rC 9 0 0 0 (ByteArray.mk #[]) (ByteArray.mk #[]) (ByteArray.mk #[]) (ByteArray.mk #[]) (ByteArray.mk #[]) (ByteArray.mk #[]) 0 0 0 0 3 0 0 false 0 (ByteArray.mk #[]))] [] [AVal.agg (rC 9 0 0 0 (ByteArray.mk #[]) (ByteArray.mk #[]) (ByteArray.mk #[]) (ByteArray.mk #[]) (ByteArray.mk #[]) (ByteArray.mk #[]) 0 0 0 0 3 0 0 false 0 (ByteArray.mk #[]))] [] (AVal.tuple [AVal.str x, iI 0]) []) :: ((Owed.use (owed Try.prog 0) 29 [] [AVal.agg [iI 5, iI 1], AVal.agg (rQ 6 (ByteArray.mk #[119]) (ByteArray.mk #[]) (ByteArray.mk #[]) (ByteArray.mk #[]) (ByteArray.mk #[]) (ByteArray.mk #[]) 0 0)] [] [AVal.agg [iI 5, iI 1], AVal.agg (rQ 6 (ByteArray.mk #[119]) (ByteArray.mk #[]) (ByteArray.mk #[]) (ByteArray.mk #[]) (ByteArray.mk #[]) (ByteArray.mk #[]) 0 0)] [] (AVal.tuple [AVal.str (ByteArray.mk #[81, 5, 1, 6, 1, 119, 0, 0, 0, 0, 0, 0, 0]), iI 0]) []) :: []))))) by kernel_rfl) (allP_of (trC 9 ⟨⟨h1, rfl, rfl, rfl⟩, ⟨⟨h2, rfl, rfl, rfl⟩, ⟨⟨h3, rfl, rfl, rfl⟩, trivial⟩⟩⟩))).move ([]) (by kernel_rfl) (by kernel_rfl) (by kernel_rfl)

def awake_T (x y : ByteArray) (a0 a3 a4 : Int) (Q : AVal → AState → Prop) : Prop := (FOk Try.prog 29 [AVal.agg [iI 5, iI 1], AVal.agg (rQ 6 (ByteArray.mk #[119]) (ByteArray.mk #[]) (ByteArray.mk #[]) (ByteArray.mk #[]) (ByteArray.mk #[]) (ByteArray.mk #[]) 0 0)] [] (AVal.tuple [AVal.str (ByteArray.mk #[81, 5, 1, 6, 1, 119, 0, 0, 0, 0, 0, 0, 0]), iI 0]) []) ∧ (FOk Try.prog 15 [AVal.agg (rC 9 0 0 0 (ByteArray.mk #[]) (ByteArray.mk #[]) (ByteArray.mk #[]) (ByteArray.mk #[]) (ByteArray.mk #[]) (ByteArray.mk #[]) 0 0 0 0 3 0 0 false 0 (ByteArray.mk #[]))] [] (AVal.tuple [AVal.str x, iI 0]) []) ∧ (FOk Try.prog 17 [AVal.str x] [] (AVal.tuple [AVal.agg (rC 9 0 0 0 (ByteArray.mk #[]) (ByteArray.mk #[]) (ByteArray.mk #[]) (ByteArray.mk #[]) (ByteArray.mk #[]) (ByteArray.mk #[]) 0 0 0 0 3 0 0 false 0 (ByteArray.mk #[])), iI 0]) []) ∧ Q (AVal.bool true) ([])
theorem awake_wp (x y : ByteArray) (a0 a3 a4 : Int) {Q : AVal → AState → Prop} (h : awake_T x y a0 a3 a4 Q) : ∃ r σ', FOk Try.prog 14 ([]) ([]) r σ' ∧ Q r σ' :=
  ⟨_, _, awake_1 x y a0 a3 a4 (h.2.2.1) (h.2.1) (h.1), h.2.2.2⟩


end Go.L12
end

section
set_option linter.unusedVariables false
set_option linter.unusedSimpArgs false
set_option maxRecDepth 100000
namespace Go.L12
open Go Go.Abs Go.Proofs

theorem pI_lt {n : Int} (h0 : 0 ≤ n) (h : n < 128) : pI n = some [UInt8.ofNat n.toNat] := by
  unfold pI
  rw [if_pos (show nOk n = true from decide_eq_true (by omega)), vbl_lt (by omega)]
theorem pS_lt {s : ByteArray} (h : s.size < 128) : pS s = some (UInt8.ofNat s.size :: lB s) := by
  unfold pS
  rw [if_pos (by omega), vbl_lt h]
  rfl
theorem awakeP : FOk Try.prog 14 [] [] (.bool true) [] := by
  have q : putAll TQ (vsQ 5 1 6 ⟨#[119]⟩ ⟨#[]⟩ ⟨#[]⟩ ⟨#[]⟩ ⟨#[]⟩ ⟨#[]⟩ 0 0) = some [5, 1, 6, 1, 119, 0, 0, 0, 0, 0, 0, 0] := by
    rw [osQ, pI_lt (by omega) (by omega), pI_lt (by omega) (by omega), pI_lt (by omega) (by omega), pI_lt (by omega) (by omega), pS_lt (by decide), pS_lt (by decide)]
    rfl
  have hq := putQ_ok 5 1 6 ⟨#[119]⟩ ⟨#[]⟩ ⟨#[]⟩ ⟨#[]⟩ ⟨#[]⟩ ⟨#[]⟩ 0 0 (by unfold bdQ; omega) _ q
  obtain ⟨b, hb⟩ : ∃ b, putAll TC (vsC 9 0 0 0 ⟨#[]⟩ ⟨#[]⟩ ⟨#[]⟩ ⟨#[]⟩ ⟨#[]⟩ ⟨#[]⟩ 0 0 0 0 3 0 0 false 0 ⟨#[]⟩) = some b := by
    rw [osC, pI_lt (n := 9) (by omega) (by omega), pI_lt (n := 0) (by omega) (by omega), pI_lt (n := 3) (by omega) (by omega), pS_lt (by decide)]
    exact ⟨_, rfl⟩
  have hc := putC_ok 9 0 0 0 ⟨#[]⟩ ⟨#[]⟩ ⟨#[]⟩ ⟨#[]⟩ ⟨#[]⟩ ⟨#[]⟩ 0 0 0 0 3 0 0 false 0 ⟨#[]⟩ (by unfold bdC; omega) b hb
  have hf := fromC_is 9 0 0 0 ⟨#[]⟩ ⟨#[]⟩ ⟨#[]⟩ ⟨#[]⟩ ⟨#[]⟩ ⟨#[]⟩ 0 0 0 0 3 0 0 false 0 ⟨#[]⟩ (Is.put (c := 67) (allFC _ _ _ _ _ _ _ _ _ _ _ _ _ _ _ _ _ _ _ _) hb)
  refine FOk.wp (awake_wp (bS (67 :: b)) ⟨#[]⟩ 0 0 0 ?_)
  unfold awake_T
  exact ⟨hq, hc, hf, rfl, rfl⟩
end Go.L12
end

section
set_option linter.unusedVariables false
set_option maxRecDepth 100000
namespace Go.L12
open Go Go.Abs Go.Proofs
theorem kE_1 (s : ByteArray)
    (h1 : decide (0 ≤ tkV (tkR s) ∧ tkV (tkR s) ≤ (↑(ByteArray.size (tkR (tkR s))) : Int) ∧ (↑(ByteArray.size (tkR (tkR s))) : Int) ≤ (↑(ByteArray.size (tkR (tkR s))) : Int)) = true)
    (h2 : decide (0 ≤ (↑0 : Int) ∧ (↑0 : Int) ≤ tkV (tkR s) ∧ tkV (tkR s) ≤ (↑(ByteArray.size (tkR (tkR s))) : Int)) = true)
    (h3 : decide (tkV (tkR s) ≤ (↑(ByteArray.size (tkR (tkR s))) : Int)) = true)
    (h4 : tkOk (tkR s) 262144 = true)
    (h5 : tkOk s 1099511627776 = true) :
    FOk Try.prog 60 ([AVal.ptr 0 1 0 0, AVal.slc false 1 1 0 2 (some 2)]) ([AObj.rows true 1 [[AVal.str s]], AObj.rows false 1 [[AVal.iface 100 (AVal.ptr 2 2 0 0)], [AVal.iface 104 (AVal.ptr 2 2 0 1)]], AObj.rows true 2 [[iI 0, AVal.str (ByteArray.mk #[])]]]) (AVal.tuple []) ([AObj.rows true 1 [[AVal.str (ByteArray.extract (tkR (tkR s)) (Int.toNat (tkV (tkR s))) (Int.toNat (↑(ByteArray.size (tkR (tkR s))) : Int)))]], AObj.rows false 1 [[AVal.iface 100 (AVal.ptr 2 2 0 0)], [AVal.iface 104 (AVal.ptr 2 2 0 1)]], AObj.rows true 2 [[iI (tkV s), AVal.str (ByteArray.extract (tkR (tkR s)) 0 (Int.toNat (tkV (tkR s))))]]]) :=
  (evalF_ok followed Try.func60 (by kernel_rfl) (show evalF Try.prog Try.f60 ([AVal.ptr 0 1 0 0, AVal.slc false 1 1 0 2 (some 2)]) ([AObj.rows true 1 [[AVal.str s]], AObj.rows false 1 [[AVal.iface 100 (AVal.ptr 2 2 0 0)], [AVal.iface 104 (AVal.ptr 2 2 0 1)]], AObj.rows true 2 [[iI 0, AVal.str (ByteArray.mk #[])]]]) ([Dec.unroll 3, Dec.br true, Dec.use [0] [AVal.ptr 0 1 0 0, iI 1099511627776] [AObj.rows true 1 [[AVal.str s]]] (iI (tkV s)) [AObj.rows true 1 [[AVal.str (tkR s)]]], Dec.br true, Dec.use [0] [AVal.ptr 0 1 0 0, iI 262144] [AObj.rows true 1 [[AVal.str (tkR s)]]] (iI (tkV (tkR s))) [AObj.rows true 1 [[AVal.str (tkR (tkR s))]]], Dec.use [] [AVal.bool (decide (tkV (tkR s) ≤ (↑(ByteArray.size (tkR (tkR s))) : Int)))] [] (AVal.tuple []) [], Dec.br false]) = .ok (FRes.mk (AVal.tuple []) ([AObj.rows true 1 [[AVal.str (ByteArray.extract (tkR (tkR s)) (Int.toNat (tkV (tkR s))) (Int.toNat (↑(ByteArray.size (tkR (tkR s))) : Int)))]], AObj.rows false 1 [[AVal.iface 100 (AVal.ptr 2 2 0 0)], [AVal.iface 104 (AVal.ptr 2 2 0 1)]], AObj.rows true 2 [[iI (tkV s), AVal.str (ByteArray.extract (tkR (tkR s)) 0 (Int.toNat (tkV (tkR s))))]]]) ((false = false) :: (tr 17 ++ ((decide (0 ≤ tkV (tkR s) ∧ tkV (tkR s) ≤ (↑(ByteArray.size (tkR (tkR s))) : Int) ∧ (↑(ByteArray.size (tkR (tkR s))) : Int) ≤ (↑(ByteArray.size (tkR (tkR s))) : Int)) = true) :: (tr 20 ++ ((decide (0 ≤ (↑0 : Int) ∧ (↑0 : Int) ≤ tkV (tkR s) ∧ tkV (tkR s) ≤ (↑(ByteArray.size (tkR (tkR s))) : Int)) = true) :: (tr 18 ++ ((Owed.use (owed Try.prog 3) 58 [] [AVal.bool (decide (tkV (tkR s) ≤ (↑(ByteArray.size (tkR (tkR s))) : Int)))] [AObj.rows true 1 [[AVal.str (tkR (tkR s))]], AObj.rows false 1 [[AVal.iface 100 (AVal.ptr 2 2 0 0)], [AVal.iface 104 (AVal.ptr 2 2 0 1)]], AObj.rows true 2 [[iI (tkV s), AVal.str (ByteArray.mk #[])]]] [AVal.bool (decide (tkV (tkR s) ≤ (↑(ByteArray.size (tkR (tkR s))) : Int)))] [] (AVal.tuple []) []) :: (tr 3 ++ ((Owed.use (owed Try.prog 3) 66 [0] [AVal.ptr 0 1 0 0, iI 262144] [AObj.rows true 1 [[AVal.str (tkR s)]], AObj.rows false 1 [[AVal.iface 100 (AVal.ptr 2 2 0 0)], [AVal.iface 104 (AVal.ptr 2 2 0 1)]], AObj.rows true 2 [[iI (tkV s), AVal.str (ByteArray.mk #[])]]] [AVal.ptr 0 1 0 0, iI 262144] [AObj.rows true 1 [[AVal.str (tkR s)]]] (iI (tkV (tkR s))) [AObj.rows true 1 [[AVal.str (tkR (tkR s))]]]) :: (tr 6 ++ ((Owed.use (owed Try.prog 3) 66 [0] [AVal.ptr 0 1 0 0, iI 1099511627776] [AObj.rows true 1 [[AVal.str s]], AObj.rows false 1 [[AVal.iface 100 (AVal.ptr 2 2 0 0)], [AVal.iface 104 (AVal.ptr 2 2 0 1)]], AObj.rows true 2 [[iI 0, AVal.str (ByteArray.mk #[])]]] [AVal.ptr 0 1 0 0, iI 1099511627776] [AObj.rows true 1 [[AVal.str s]]] (iI (tkV s)) [AObj.rows true 1 [[AVal.str (tkR s)]]]) :: (tr 4 ++ []))))))))))))) by kernel_rfl) (allP_of ⟨rfl, (trC 17 ⟨h1, (trC 20 ⟨h2, (trC 18 ⟨⟨(@Go.L12.right_ok (decide (tkV (tkR s) ≤ (↑(ByteArray.size (tkR (tkR s))) : Int))) h3), rfl, rfl, rfl⟩, (trC 3 ⟨⟨(@Go.L12.taken_ok (tkR s) (262144) h4), rfl, rfl, rfl⟩, (trC 6 ⟨⟨(@Go.L12.taken_ok (s) (1099511627776) h5), rfl, rfl, rfl⟩, (trC 4 trivial)⟩)⟩)⟩)⟩)⟩)⟩)).move ([0, 1, 2]) (by kernel_rfl) (by kernel_rfl) (by kernel_rfl)

theorem kE_2 (s : ByteArray)
    (h1 : decide (tkV (tkR s) ≤ (↑(ByteArray.size (tkR (tkR s))) : Int)) = false)
    (h2 : tkOk (tkR s) 262144 = true)
    (h3 : tkOk s 1099511627776 = true) :
    FOk Try.prog 60 ([AVal.ptr 0 1 0 0, AVal.slc false 1 1 0 2 (some 2)]) ([AObj.rows true 1 [[AVal.str s]], AObj.rows false 1 [[AVal.iface 100 (AVal.ptr 2 2 0 0)], [AVal.iface 104 (AVal.ptr 2 2 0 1)]], AObj.rows true 2 [[iI 0, AVal.str (ByteArray.mk #[])]]]) (AVal.pan 117) ([AObj.rows true 1 [[AVal.str (tkR (tkR s))]], AObj.rows false 1 [[AVal.iface 100 (AVal.ptr 2 2 0 0)], [AVal.iface 104 (AVal.ptr 2 2 0 1)]], AObj.rows true 2 [[iI (tkV s), AVal.str (ByteArray.mk #[])]]]) :=
  (evalF_ok followed Try.func60 (by kernel_rfl) (show evalF Try.prog Try.f60 ([AVal.ptr 0 1 0 0, AVal.slc false 1 1 0 2 (some 2)]) ([AObj.rows true 1 [[AVal.str s]], AObj.rows false 1 [[AVal.iface 100 (AVal.ptr 2 2 0 0)], [AVal.iface 104 (AVal.ptr 2 2 0 1)]], AObj.rows true 2 [[iI 0, AVal.str (ByteArray.mk #[])]]]) ([Dec.unroll 3, Dec.br true, Dec.use [0] [AVal.ptr 0 1 0 0, iI 1099511627776] [AObj.rows true 1 [[AVal.str s]]] (iI (tkV s)) [AObj.rows true 1 [[AVal.str (tkR s)]]], Dec.br true, Dec.use [0] [AVal.ptr 0 1 0 0, iI 262144] [AObj.rows true 1 [[AVal.str (tkR s)]]] (iI (tkV (tkR s))) [AObj.rows true 1 [[AVal.str (tkR (tkR s))]]], Dec.use [] [AVal.bool (decide (tkV (tkR s) ≤ (↑(ByteArray.size (tkR (tkR s))) : Int)))] [] (AVal.pan 117) []]) = .ok (FRes.mk (AVal.pan 117) ([AObj.rows true 1 [[AVal.str (tkR (tkR s))]], AObj.rows false 1 [[AVal.iface 100 (AVal.ptr 2 2 0 0)], [AVal.iface 104 (AVal.ptr 2 2 0 1)]], AObj.rows true 2 [[iI (tkV s), AVal.str (ByteArray.mk #[])]]]) ((Owed.use (owed Try.prog 3) 58 [] [AVal.bool (decide (tkV (tkR s) ≤ (↑(ByteArray.size (tkR (tkR s))) : Int)))] [AObj.rows true 1 [[AVal.str (tkR (tkR s))]], AObj.rows false 1 [[AVal.iface 100 (AVal.ptr 2 2 0 0)], [AVal.iface 104 (AVal.ptr 2 2 0 1)]], AObj.rows true 2 [[iI (tkV s), AVal.str (ByteArray.mk #[])]]] [AVal.bool (decide (tkV (tkR s) ≤ (↑(ByteArray.size (tkR (tkR s))) : Int)))] [] (AVal.pan 117) []) :: (tr 3 ++ ((Owed.use (owed Try.prog 3) 66 [0] [AVal.ptr 0 1 0 0, iI 262144] [AObj.rows true 1 [[AVal.str (tkR s)]], AObj.rows false 1 [[AVal.iface 100 (AVal.ptr 2 2 0 0)], [AVal.iface 104 (AVal.ptr 2 2 0 1)]], AObj.rows true 2 [[iI (tkV s), AVal.str (ByteArray.mk #[])]]] [AVal.ptr 0 1 0 0, iI 262144] [AObj.rows true 1 [[AVal.str (tkR s)]]] (iI (tkV (tkR s))) [AObj.rows true 1 [[AVal.str (tkR (tkR s))]]]) :: (tr 6 ++ ((Owed.use (owed Try.prog 3) 66 [0] [AVal.ptr 0 1 0 0, iI 1099511627776] [AObj.rows true 1 [[AVal.str s]], AObj.rows false 1 [[AVal.iface 100 (AVal.ptr 2 2 0 0)], [AVal.iface 104 (AVal.ptr 2 2 0 1)]], AObj.rows true 2 [[iI 0, AVal.str (ByteArray.mk #[])]]] [AVal.ptr 0 1 0 0, iI 1099511627776] [AObj.rows true 1 [[AVal.str s]]] (iI (tkV s)) [AObj.rows true 1 [[AVal.str (tkR s)]]]) :: (tr 4 ++ []))))))) by kernel_rfl) (allP_of ⟨⟨(@Go.L12.right_no (decide (tkV (tkR s) ≤ (↑(ByteArray.size (tkR (tkR s))) : Int))) h1), rfl, rfl, rfl⟩, (trC 3 ⟨⟨(@Go.L12.taken_ok (tkR s) (262144) h2), rfl, rfl, rfl⟩, (trC 6 ⟨⟨(@Go.L12.taken_ok (s) (1099511627776) h3), rfl, rfl, rfl⟩, (trC 4 trivial)⟩)⟩)⟩)).move ([0, 1, 2]) (by kernel_rfl) (by kernel_rfl) (by kernel_rfl)

theorem kE_3 (s : ByteArray)
    (h1 : tkOk (tkR s) 262144 = false)
    (h2 : tkOk s 1099511627776 = true) :
    FOk Try.prog 60 ([AVal.ptr 0 1 0 0, AVal.slc false 1 1 0 2 (some 2)]) ([AObj.rows true 1 [[AVal.str s]], AObj.rows false 1 [[AVal.iface 100 (AVal.ptr 2 2 0 0)], [AVal.iface 104 (AVal.ptr 2 2 0 1)]], AObj.rows true 2 [[iI 0, AVal.str (ByteArray.mk #[])]]]) (AVal.pan 117) ([AObj.dead, AObj.rows false 1 [[AVal.iface 100 (AVal.ptr 2 2 0 0)], [AVal.iface 104 (AVal.ptr 2 2 0 1)]], AObj.rows true 2 [[iI (tkV s), AVal.str (ByteArray.mk #[])]]]) :=
  (evalF_ok followed Try.func60 (by kernel_rfl) (show evalF Try.prog Try.f60 ([AVal.ptr 0 1 0 0, AVal.slc false 1 1 0 2 (some 2)]) ([AObj.rows true 1 [[AVal.str s]], AObj.rows false 1 [[AVal.iface 100 (AVal.ptr 2 2 0 0)], [AVal.iface 104 (AVal.ptr 2 2 0 1)]], AObj.rows true 2 [[iI 0, AVal.str (ByteArray.mk #[])]]]) ([Dec.unroll 3, Dec.br true, Dec.use [0] [AVal.ptr 0 1 0 0, iI 1099511627776] [AObj.rows true 1 [[AVal.str s]]] (iI (tkV s)) [AObj.rows true 1 [[AVal.str (tkR s)]]], Dec.br true, Dec.use [0] [AVal.ptr 0 1 0 0, iI 262144] [AObj.rows true 1 [[AVal.str (tkR s)]]] (AVal.pan 117) [AObj.dead]]) = .ok (FRes.mk (AVal.pan 117) ([AObj.dead, AObj.rows false 1 [[AVal.iface 100 (AVal.ptr 2 2 0 0)], [AVal.iface 104 (AVal.ptr 2 2 0 1)]], AObj.rows true 2 [[iI (tkV s), AVal.str (ByteArray.mk #[])]]]) ((Owed.use (owed Try.prog 3) 66 [0] [AVal.ptr 0 1 0 0, iI 262144] [AObj.rows true 1 [[AVal.str (tkR s)]], AObj.rows false 1 [[AVal.iface 100 (AVal.ptr 2 2 0 0)], [AVal.iface 104 (AVal.ptr 2 2 0 1)]], AObj.rows true 2 [[iI (tkV s), AVal.str (ByteArray.mk #[])]]] [AVal.ptr 0 1 0 0, iI 262144] [AObj.rows true 1 [[AVal.str (tkR s)]]] (AVal.pan 117) [AObj.dead]) :: (tr 6 ++ ((Owed.use (owed Try.prog 3) 66 [0] [AVal.ptr 0 1 0 0, iI 1099511627776] [AObj.rows true 1 [[AVal.str s]], AObj.rows false 1 [[AVal.iface 100 (AVal.ptr 2 2 0 0)], [AVal.iface 104 (AVal.ptr 2 2 0 1)]], AObj.rows true 2 [[iI 0, AVal.str (ByteArray.mk #[])]]] [AVal.ptr 0 1 0 0, iI 1099511627776] [AObj.rows true 1 [[AVal.str s]]] (iI (tkV s)) [AObj.rows true 1 [[AVal.str (tkR s)]]]) :: (tr 4 ++ []))))) by kernel_rfl) (allP_of ⟨⟨(@Go.L12.taken_no (tkR s) (262144) h1), rfl, rfl, rfl⟩, (trC 6 ⟨⟨(@Go.L12.taken_ok (s) (1099511627776) h2), rfl, rfl, rfl⟩, (trC 4 trivial)⟩)⟩)).move ([0, 1, 2]) (by kernel_rfl) (by kernel_rfl) (by kernel_rfl)

theorem kE_4 (s : ByteArray)
    (h1 : tkOk s 1099511627776 = false) :
    FOk Try.prog 60 ([AVal.ptr 0 1 0 0, AVal.slc false 1 1 0 2 (some 2)]) ([AObj.rows true 1 [[AVal.str s]], AObj.rows false 1 [[AVal.iface 100 (AVal.ptr 2 2 0 0)], [AVal.iface 104 (AVal.ptr 2 2 0 1)]], AObj.rows true 2 [[iI 0, AVal.str (ByteArray.mk #[])]]]) (AVal.pan 117) ([AObj.dead, AObj.rows false 1 [[AVal.iface 100 (AVal.ptr 2 2 0 0)], [AVal.iface 104 (AVal.ptr 2 2 0 1)]], AObj.rows true 2 [[iI 0, AVal.str (ByteArray.mk #[])]]]) :=
  (evalF_ok followed Try.func60 (by kernel_rfl) (show evalF Try.prog Try.f60 ([AVal.ptr 0 1 0 0, AVal.slc false 1 1 0 2 (some 2)]) ([AObj.rows true 1 [[AVal.str s]], AObj.rows false 1 [[AVal.iface 100 (AVal.ptr 2 2 0 0)], [AVal.iface 104 (AVal.ptr 2 2 0 1)]], AObj.rows true 2 [[iI 0, AVal.str (ByteArray.mk #[])]]]) ([Dec.unroll 3, Dec.br true, Dec.use [0] [AVal.ptr 0 1 0 0, iI 1099511627776] [AObj.rows true 1 [[AVal.str s]]] (AVal.pan 117) [AObj.dead]]) = .ok (FRes.mk (AVal.pan 117) ([AObj.dead, AObj.rows false 1 [[AVal.iface 100 (AVal.ptr 2 2 0 0)], [AVal.iface 104 (AVal.ptr 2 2 0 1)]], AObj.rows true 2 [[iI 0, AVal.str (ByteArray.mk #[])]]]) ((Owed.use (owed Try.prog 3) 66 [0] [AVal.ptr 0 1 0 0, iI 1099511627776] [AObj.rows true 1 [[AVal.str s]], AObj.rows false 1 [[AVal.iface 100 (AVal.ptr 2 2 0 0)], [AVal.iface 104 (AVal.ptr 2 2 0 1)]], AObj.rows true 2 [[iI 0, AVal.str (ByteArray.mk #[])]]] [AVal.ptr 0 1 0 0, iI 1099511627776] [AObj.rows true 1 [[AVal.str s]]] (AVal.pan 117) [AObj.dead]) :: (tr 4 ++ []))) by kernel_rfl) (allP_of ⟨⟨(@Go.L12.taken_no (s) (1099511627776) h1), rfl, rfl, rfl⟩, (trC 4 trivial)⟩)).move ([0, 1, 2]) (by kernel_rfl) (by kernel_rfl) (by kernel_rfl)

theorem kP_1 (s : ByteArray)
    (h1 : decide (0 ≤ tkV (ByteArray.extract (tkR s) (Int.toNat (tkV s)) (Int.toNat (↑(ByteArray.size (tkR s)) : Int))) ∧ tkV (ByteArray.extract (tkR s) (Int.toNat (tkV s)) (Int.toNat (↑(ByteArray.size (tkR s)) : Int))) ≤ (↑(ByteArray.size (tkR (ByteArray.extract (tkR s) (Int.toNat (tkV s)) (Int.toNat (↑(ByteArray.size (tkR s)) : Int))))) : Int) ∧ (↑(ByteArray.size (tkR (ByteArray.extract (tkR s) (Int.toNat (tkV s)) (Int.toNat (↑(ByteArray.size (tkR s)) : Int))))) : Int) ≤ (↑(ByteArray.size (tkR (ByteArray.extract (tkR s) (Int.toNat (tkV s)) (Int.toNat (↑(ByteArray.size (tkR s)) : Int))))) : Int)) = true)
    (h2 : decide (0 ≤ (↑0 : Int) ∧ (↑0 : Int) ≤ tkV (ByteArray.extract (tkR s) (Int.toNat (tkV s)) (Int.toNat (↑(ByteArray.size (tkR s)) : Int))) ∧ tkV (ByteArray.extract (tkR s) (Int.toNat (tkV s)) (Int.toNat (↑(ByteArray.size (tkR s)) : Int))) ≤ (↑(ByteArray.size (tkR (ByteArray.extract (tkR s) (Int.toNat (tkV s)) (Int.toNat (↑(ByteArray.size (tkR s)) : Int))))) : Int)) = true)
    (h3 : decide (tkV (ByteArray.extract (tkR s) (Int.toNat (tkV s)) (Int.toNat (↑(ByteArray.size (tkR s)) : Int))) ≤ (↑(ByteArray.size (tkR (ByteArray.extract (tkR s) (Int.toNat (tkV s)) (Int.toNat (↑(ByteArray.size (tkR s)) : Int))))) : Int)) = true)
    (h4 : tkOk (ByteArray.extract (tkR s) (Int.toNat (tkV s)) (Int.toNat (↑(ByteArray.size (tkR s)) : Int))) 262144 = true)
    (h5 : decide (0 ≤ tkV s ∧ tkV s ≤ (↑(ByteArray.size (tkR s)) : Int) ∧ (↑(ByteArray.size (tkR s)) : Int) ≤ (↑(ByteArray.size (tkR s)) : Int)) = true)
    (h6 : decide (0 ≤ (↑0 : Int) ∧ (↑0 : Int) ≤ tkV s ∧ tkV s ≤ (↑(ByteArray.size (tkR s)) : Int)) = true)
    (h7 : decide (tkV s ≤ (↑(ByteArray.size (tkR s)) : Int)) = true)
    (h8 : tkOk s 262144 = true) :
    FOk Try.prog 60 ([AVal.ptr 0 1 0 0, AVal.slc false 1 1 0 2 (some 2)]) ([AObj.rows true 1 [[AVal.str s]], AObj.rows false 1 [[AVal.iface 104 (AVal.ptr 2 2 0 0)], [AVal.iface 104 (AVal.ptr 2 2 0 1)]], AObj.rows true 2 [[AVal.str (ByteArray.mk #[]), AVal.str (ByteArray.mk #[])]]]) (AVal.tuple []) ([AObj.rows true 1 [[AVal.str (ByteArray.extract (tkR (ByteArray.extract (tkR s) (Int.toNat (tkV s)) (Int.toNat (↑(ByteArray.size (tkR s)) : Int)))) (Int.toNat (tkV (ByteArray.extract (tkR s) (Int.toNat (tkV s)) (Int.toNat (↑(ByteArray.size (tkR s)) : Int))))) (Int.toNat (↑(ByteArray.size (tkR (ByteArray.extract (tkR s) (Int.toNat (tkV s)) (Int.toNat (↑(ByteArray.size (tkR s)) : Int))))) : Int)))]], AObj.rows false 1 [[AVal.iface 104 (AVal.ptr 2 2 0 0)], [AVal.iface 104 (AVal.ptr 2 2 0 1)]], AObj.rows true 2 [[AVal.str (ByteArray.extract (tkR s) 0 (Int.toNat (tkV s))), AVal.str (ByteArray.extract (tkR (ByteArray.extract (tkR s) (Int.toNat (tkV s)) (Int.toNat (↑(ByteArray.size (tkR s)) : Int)))) 0 (Int.toNat (tkV (ByteArray.extract (tkR s) (Int.toNat (tkV s)) (Int.toNat (↑(ByteArray.size (tkR s)) : Int))))))]]]) :=
  (evalF_ok followed Try.func60 (by kernel_rfl) (show evalF Try.prog Try.f60 ([AVal.ptr 0 1 0 0, AVal.slc false 1 1 0 2 (some 2)]) ([AObj.rows true 1 [[AVal.str s]], AObj.rows false 1 [[AVal.iface 104 (AVal.ptr 2 2 0 0)], [AVal.iface 104 (AVal.ptr 2 2 0 1)]], AObj.rows true 2 [[AVal.str (ByteArray.mk #[]), AVal.str (ByteArray.mk #[])]]]) ([Dec.unroll 3, Dec.br true, Dec.use [0] [AVal.ptr 0 1 0 0, iI 262144] [AObj.rows true 1 [[AVal.str s]]] (iI (tkV s)) [AObj.rows true 1 [[AVal.str (tkR s)]]], Dec.use [] [AVal.bool (decide (tkV s ≤ (↑(ByteArray.size (tkR s)) : Int)))] [] (AVal.tuple []) [], Dec.br true, Dec.use [0] [AVal.ptr 0 1 0 0, iI 262144] [AObj.rows true 1 [[AVal.str (ByteArray.extract (tkR s) (Int.toNat (tkV s)) (Int.toNat (↑(ByteArray.size (tkR s)) : Int)))]]] (iI (tkV (ByteArray.extract (tkR s) (Int.toNat (tkV s)) (Int.toNat (↑(ByteArray.size (tkR s)) : Int))))) [AObj.rows true 1 [[AVal.str (tkR (ByteArray.extract (tkR s) (Int.toNat (tkV s)) (Int.toNat (↑(ByteArray.size (tkR s)) : Int))))]]], Dec.use [] [AVal.bool (decide (tkV (ByteArray.extract (tkR s) (Int.toNat (tkV s)) (Int.toNat (↑(ByteArray.size (tkR s)) : Int))) ≤ (↑(ByteArray.size (tkR (ByteArray.extract (tkR s) (Int.toNat (tkV s)) (Int.toNat (↑(ByteArray.size (tkR s)) : Int))))) : Int)))] [] (AVal.tuple []) [], Dec.br false]) = .ok (FRes.mk (AVal.tuple []) ([AObj.rows true 1 [[AVal.str (ByteArray.extract (tkR (ByteArray.extract (tkR s) (Int.toNat (tkV s)) (Int.toNat (↑(ByteArray.size (tkR s)) : Int)))) (Int.toNat (tkV (ByteArray.extract (tkR s) (Int.toNat (tkV s)) (Int.toNat (↑(ByteArray.size (tkR s)) : Int))))) (Int.toNat (↑(ByteArray.size (tkR (ByteArray.extract (tkR s) (Int.toNat (tkV s)) (Int.toNat (↑(ByteArray.size (tkR s)) : Int))))) : Int)))]], AObj.rows false 1 [[AVal.iface 104 (AVal.ptr 2 2 0 0)], [AVal.iface 104 (AVal.ptr 2 2 0 1)]], AObj.rows true 2 [[AVal.str (ByteArray.extract (tkR s) 0 (Int.toNat (tkV s))), AVal.str (ByteArray.extract (tkR (ByteArray.extract (tkR s) (Int.toNat (tkV s)) (Int.toNat (↑(ByteArray.size (tkR s)) : Int)))) 0 (Int.toNat (tkV (ByteArray.extract (tkR s) (Int.toNat (tkV s)) (Int.toNat (↑(ByteArray.size (tkR s)) : Int))))))]]]) ((false = false) :: (tr 17 ++ ((decide (0 ≤ tkV (ByteArray.extract (tkR s) (Int.toNat (tkV s)) (Int.toNat (↑(ByteArray.size (tkR s)) : Int))) ∧ tkV (ByteArray.extract (tkR s) (Int.toNat (tkV s)) (Int.toNat (↑(ByteArray.size (tkR s)) : Int))) ≤ (↑(ByteArray.size (tkR (ByteArray.extract (tkR s) (Int.toNat (tkV s)) (Int.toNat (↑(ByteArray.size (tkR s)) : Int))))) : Int) ∧ (↑(ByteArray.size (tkR (ByteArray.extract (tkR s) (Int.toNat (tkV s)) (Int.toNat (↑(ByteArray.size (tkR s)) : Int))))) : Int) ≤ (↑(ByteArray.size (tkR (ByteArray.extract (tkR s) (Int.toNat (tkV s)) (Int.toNat (↑(ByteArray.size (tkR s)) : Int))))) : Int)) = true) :: (tr 20 ++ ((decide (0 ≤ (↑0 : Int) ∧ (↑0 : Int) ≤ tkV (ByteArray.extract (tkR s) (Int.toNat (tkV s)) (Int.toNat (↑(ByteArray.size (tkR s)) : Int))) ∧ tkV (ByteArray.extract (tkR s) (Int.toNat (tkV s)) (Int.toNat (↑(ByteArray.size (tkR s)) : Int))) ≤ (↑(ByteArray.size (tkR (ByteArray.extract (tkR s) (Int.toNat (tkV s)) (Int.toNat (↑(ByteArray.size (tkR s)) : Int))))) : Int)) = true) :: (tr 18 ++ ((Owed.use (owed Try.prog 3) 58 [] [AVal.bool (decide (tkV (ByteArray.extract (tkR s) (Int.toNat (tkV s)) (Int.toNat (↑(ByteArray.size (tkR s)) : Int))) ≤ (↑(ByteArray.size (tkR (ByteArray.extract (tkR s) (Int.toNat (tkV s)) (Int.toNat (↑(ByteArray.size (tkR s)) : Int))))) : Int)))] [AObj.rows true 1 [[AVal.str (tkR (ByteArray.extract (tkR s) (Int.toNat (tkV s)) (Int.toNat (↑(ByteArray.size (tkR s)) : Int))))]], AObj.rows false 1 [[AVal.iface 104 (AVal.ptr 2 2 0 0)], [AVal.iface 104 (AVal.ptr 2 2 0 1)]], AObj.rows true 2 [[AVal.str (ByteArray.extract (tkR s) 0 (Int.toNat (tkV s))), AVal.str (ByteArray.mk #[])]]] [AVal.bool (decide (tkV (ByteArray.extract (tkR s) (Int.toNat (tkV s)) (Int.toNat (↑(ByteArray.size (tkR s)) : Int))) ≤ (↑(ByteArray.size (tkR (ByteArray.extract (tkR s) (Int.toNat (tkV s)) (Int.toNat (↑(ByteArray.size (tkR s)) : Int))))) : Int)))] [] (AVal.tuple []) []) :: (tr 3 ++ ((Owed.use (owed Try.prog 3) 66 [0] [AVal.ptr 0 1 0 0, iI 262144] [AObj.rows true 1 [[AVal.str (ByteArray.extract (tkR s) (Int.toNat (tkV s)) (Int.toNat (↑(ByteArray.size (tkR s)) : Int)))]], AObj.rows false 1 [[AVal.iface 104 (AVal.ptr 2 2 0 0)], [AVal.iface 104 (AVal.ptr 2 2 0 1)]], AObj.rows true 2 [[AVal.str (ByteArray.extract (tkR s) 0 (Int.toNat (tkV s))), AVal.str (ByteArray.mk #[])]]] [AVal.ptr 0 1 0 0, iI 262144] [AObj.rows true 1 [[AVal.str (ByteArray.extract (tkR s) (Int.toNat (tkV s)) (Int.toNat (↑(ByteArray.size (tkR s)) : Int)))]]] (iI (tkV (ByteArray.extract (tkR s) (Int.toNat (tkV s)) (Int.toNat (↑(ByteArray.size (tkR s)) : Int))))) [AObj.rows true 1 [[AVal.str (tkR (ByteArray.extract (tkR s) (Int.toNat (tkV s)) (Int.toNat (↑(ByteArray.size (tkR s)) : Int))))]]]) :: (tr 21 ++ ((decide (0 ≤ tkV s ∧ tkV s ≤ (↑(ByteArray.size (tkR s)) : Int) ∧ (↑(ByteArray.size (tkR s)) : Int) ≤ (↑(ByteArray.size (tkR s)) : Int)) = true) :: (tr 20 ++ ((decide (0 ≤ (↑0 : Int) ∧ (↑0 : Int) ≤ tkV s ∧ tkV s ≤ (↑(ByteArray.size (tkR s)) : Int)) = true) :: (tr 18 ++ ((Owed.use (owed Try.prog 3) 58 [] [AVal.bool (decide (tkV s ≤ (↑(ByteArray.size (tkR s)) : Int)))] [AObj.rows true 1 [[AVal.str (tkR s)]], AObj.rows false 1 [[AVal.iface 104 (AVal.ptr 2 2 0 0)], [AVal.iface 104 (AVal.ptr 2 2 0 1)]], AObj.rows true 2 [[AVal.str (ByteArray.mk #[]), AVal.str (ByteArray.mk #[])]]] [AVal.bool (decide (tkV s ≤ (↑(ByteArray.size (tkR s)) : Int)))] [] (AVal.tuple []) []) :: (tr 3 ++ ((Owed.use (owed Try.prog 3) 66 [0] [AVal.ptr 0 1 0 0, iI 262144] [AObj.rows true 1 [[AVal.str s]], AObj.rows false 1 [[AVal.iface 104 (AVal.ptr 2 2 0 0)], [AVal.iface 104 (AVal.ptr 2 2 0 1)]], AObj.rows true 2 [[AVal.str (ByteArray.mk #[]), AVal.str (ByteArray.mk #[])]]] [AVal.ptr 0 1 0 0, iI 262144] [AObj.rows true 1 [[AVal.str s]]] (iI (tkV s)) [AObj.rows true 1 [[AVal.str (tkR s)]]]) :: (tr 4 ++ []))))))))))))))))))) by kernel_rfl) (allP_of ⟨rfl, (trC 17 ⟨h1, (trC 20 ⟨h2, (trC 18 ⟨⟨(@Go.L12.right_ok (decide (tkV (ByteArray.extract (tkR s) (Int.toNat (tkV s)) (Int.toNat (↑(ByteArray.size (tkR s)) : Int))) ≤ (↑(ByteArray.size (tkR (ByteArray.extract (tkR s) (Int.toNat (tkV s)) (Int.toNat (↑(ByteArray.size (tkR s)) : Int))))) : Int))) h3), rfl, rfl, rfl⟩, (trC 3 ⟨⟨(@Go.L12.taken_ok (ByteArray.extract (tkR s) (Int.toNat (tkV s)) (Int.toNat (↑(ByteArray.size (tkR s)) : Int))) (262144) h4), rfl, rfl, rfl⟩, (trC 21 ⟨h5, (trC 20 ⟨h6, (trC 18 ⟨⟨(@Go.L12.right_ok (decide (tkV s ≤ (↑(ByteArray.size (tkR s)) : Int))) h7), rfl, rfl, rfl⟩, (trC 3 ⟨⟨(@Go.L12.taken_ok (s) (262144) h8), rfl, rfl, rfl⟩, (trC 4 trivial)⟩)⟩)⟩)⟩)⟩)⟩)⟩)⟩)⟩)).move ([0, 1, 2]) (by kernel_rfl) (by kernel_rfl) (by kernel_rfl)

theorem kP_2 (s : ByteArray)
    (h1 : decide (tkV (ByteArray.extract (tkR s) (Int.toNat (tkV s)) (Int.toNat (↑(ByteArray.size (tkR s)) : Int))) ≤ (↑(ByteArray.size (tkR (ByteArray.extract (tkR s) (Int.toNat (tkV s)) (Int.toNat (↑(ByteArray.size (tkR s)) : Int))))) : Int)) = false)
    (h2 : tkOk (ByteArray.extract (tkR s) (Int.toNat (tkV s)) (Int.toNat (↑(ByteArray.size (tkR s)) : Int))) 262144 = true)
    (h3 : decide (0 ≤ tkV s ∧ tkV s ≤ (↑(ByteArray.size (tkR s)) : Int) ∧ (↑(ByteArray.size (tkR s)) : Int) ≤ (↑(ByteArray.size (tkR s)) : Int)) = true)
    (h4 : decide (0 ≤ (↑0 : Int) ∧ (↑0 : Int) ≤ tkV s ∧ tkV s ≤ (↑(ByteArray.size (tkR s)) : Int)) = true)
    (h5 : decide (tkV s ≤ (↑(ByteArray.size (tkR s)) : Int)) = true)
    (h6 : tkOk s 262144 = true) :
    FOk Try.prog 60 ([AVal.ptr 0 1 0 0, AVal.slc false 1 1 0 2 (some 2)]) ([AObj.rows true 1 [[AVal.str s]], AObj.rows false 1 [[AVal.iface 104 (AVal.ptr 2 2 0 0)], [AVal.iface 104 (AVal.ptr 2 2 0 1)]], AObj.rows true 2 [[AVal.str (ByteArray.mk #[]), AVal.str (ByteArray.mk #[])]]]) (AVal.pan 117) ([AObj.rows true 1 [[AVal.str (tkR (ByteArray.extract (tkR s) (Int.toNat (tkV s)) (Int.toNat (↑(ByteArray.size (tkR s)) : Int))))]], AObj.rows false 1 [[AVal.iface 104 (AVal.ptr 2 2 0 0)], [AVal.iface 104 (AVal.ptr 2 2 0 1)]], AObj.rows true 2 [[AVal.str (ByteArray.extract (tkR s) 0 (Int.toNat (tkV s))), AVal.str (ByteArray.mk #[])]]]) :=
  (evalF_ok followed Try.func60 (by kernel_rfl) (show evalF Try.prog Try.f60 ([AVal.ptr 0 1 0 0, AVal.slc false 1 1 0 2 (some 2)]) ([AObj.rows true 1 [[AVal.str s]], AObj.rows false 1 [[AVal.iface 104 (AVal.ptr 2 2 0 0)], [AVal.iface 104 (AVal.ptr 2 2 0 1)]], AObj.rows true 2 [[AVal.str (ByteArray.mk #[]), AVal.str (ByteArray.mk #[])]]]) ([Dec.unroll 3, Dec.br true, Dec.use [0] [AVal.ptr 0 1 0 0, iI 262144] [AObj.rows true 1 [[AVal.str s]]] (iI (tkV s)) [AObj.rows true 1 [[AVal.str (tkR s)]]], Dec.use [] [AVal.bool (decide (tkV s ≤ (↑(ByteArray.size (tkR s)) : Int)))] [] (AVal.tuple []) [], Dec.br true, Dec.use [0] [AVal.ptr 0 1 0 0, iI 262144] [AObj.rows true 1 [[AVal.str (ByteArray.extract (tkR s) (Int.toNat (tkV s)) (Int.toNat (↑(ByteArray.size (tkR s)) : Int)))]]] (iI (tkV (ByteArray.extract (tkR s) (Int.toNat (tkV s)) (Int.toNat (↑(ByteArray.size (tkR s)) : Int))))) [AObj.rows true 1 [[AVal.str (tkR (ByteArray.extract (tkR s) (Int.toNat (tkV s)) (Int.toNat (↑(ByteArray.size (tkR s)) : Int))))]]], Dec.use [] [AVal.bool (decide (tkV (ByteArray.extract (tkR s) (Int.toNat (tkV s)) (Int.toNat (↑(ByteArray.size (tkR s)) : Int))) ≤ (↑(ByteArray.size (tkR (ByteArray.extract (tkR s) (Int.toNat (tkV s)) (Int.toNat (↑(ByteArray.size (tkR s)) : Int))))) : Int)))] [] (AVal.pan 117) []]) = .ok (FRes.mk (AVal.pan 117) ([AObj.rows true 1 [[AVal.str (tkR (ByteArray.extract (tkR s) (Int.toNat (tkV s)) (Int.toNat (↑(ByteArray.size (tkR s)) : Int))))]], AObj.rows false 1 [[AVal.iface 104 (AVal.ptr 2 2 0 0)], [AVal.iface 104 (AVal.ptr 2 2 0 1)]], AObj.rows true 2 [[AVal.str (ByteArray.extract (tkR s) 0 (Int.toNat (tkV s))), AVal.str (ByteArray.mk #[])]]]) ((Owed.use (owed Try.prog 3) 58 [] [AVal.bool (decide (tkV (ByteArray.extract (tkR s) (Int.toNat (tkV s)) (Int.toNat (↑(ByteArray.size (tkR s)) : Int))) ≤ (↑(ByteArray.size (tkR (ByteArray.extract (tkR s) (Int.toNat (tkV s)) (Int.toNat (↑(ByteArray.size (tkR s)) : Int))))) : Int)))] [AObj.rows true 1 [[AVal.str (tkR (ByteArray.extract (tkR s) (Int.toNat (tkV s)) (Int.toNat (↑(ByteArray.size (tkR s)) : Int))))]], AObj.rows false 1 [[AVal.iface 104 (AVal.ptr 2 2 0 0)], [AVal.iface 104 (AVal.ptr 2 2 0 1)]], AObj.rows true 2 [[AVal.str (ByteArray.extract (tkR s) 0 (Int.toNat (tkV s))), AVal.str (ByteArray.mk #[])]]] [AVal.bool (decide (tkV (ByteArray.extract (tkR s) (Int.toNat (tkV s)) (Int.toNat (↑(ByteArray.size (tkR s)) : Int))) ≤ (↑(ByteArray.size (tkR (ByteArray.extract (tkR s) (Int.toNat (tkV s)) (Int.toNat (↑(ByteArray.size (tkR s)) : Int))))) : Int)))] [] (AVal.pan 117) []) :: (tr 3 ++ ((Owed.use (owed Try.prog 3) 66 [0] [AVal.ptr 0 1 0 0, iI 262144] [AObj.rows true 1 [[AVal.str (ByteArray.extract (tkR s) (Int.toNat (tkV s)) (Int.toNat (↑(ByteArray.size (tkR s)) : Int)))]], AObj.rows false 1 [[AVal.iface 104 (AVal.ptr 2 2 0 0)], [AVal.iface 104 (AVal.ptr 2 2 0 1)]], AObj.rows true 2 [[AVal.str (ByteArray.extract (tkR s) 0 (Int.toNat (tkV s))), AVal.str (ByteArray.mk #[])]]] [AVal.ptr 0 1 0 0, iI 262144] [AObj.rows true 1 [[AVal.str (ByteArray.extract (tkR s) (Int.toNat (tkV s)) (Int.toNat (↑(ByteArray.size (tkR s)) : Int)))]]] (iI (tkV (ByteArray.extract (tkR s) (Int.toNat (tkV s)) (Int.toNat (↑(ByteArray.size (tkR s)) : Int))))) [AObj.rows true 1 [[AVal.str (tkR (ByteArray.extract (tkR s) (Int.toNat (tkV s)) (Int.toNat (↑(ByteArray.size (tkR s)) : Int))))]]]) :: (tr 21 ++ ((decide (0 ≤ tkV s ∧ tkV s ≤ (↑(ByteArray.size (tkR s)) : Int) ∧ (↑(ByteArray.size (tkR s)) : Int) ≤ (↑(ByteArray.size (tkR s)) : Int)) = true) :: (tr 20 ++ ((decide (0 ≤ (↑0 : Int) ∧ (↑0 : Int) ≤ tkV s ∧ tkV s ≤ (↑(ByteArray.size (tkR s)) : Int)) = true) :: (tr 18 ++ ((Owed.use (owed Try.prog 3) 58 [] [AVal.bool (decide (tkV s ≤ (↑(ByteArray.size (tkR s)) : Int)))] [AObj.rows true 1 [[AVal.str (tkR s)]], AObj.rows false 1 [[AVal.iface 104 (AVal.ptr 2 2 0 0)], [AVal.iface 104 (AVal.ptr 2 2 0 1)]], AObj.rows true 2 [[AVal.str (ByteArray.mk #[]), AVal.str (ByteArray.mk #[])]]] [AVal.bool (decide (tkV s ≤ (↑(ByteArray.size (tkR s)) : Int)))] [] (AVal.tuple []) []) :: (tr 3 ++ ((Owed.use (owed Try.prog 3) 66 [0] [AVal.ptr 0 1 0 0, iI 262144] [AObj.rows true 1 [[AVal.str s]], AObj.rows false 1 [[AVal.iface 104 (AVal.ptr 2 2 0 0)], [AVal.iface 104 (AVal.ptr 2 2 0 1)]], AObj.rows true 2 [[AVal.str (ByteArray.mk #[]), AVal.str (ByteArray.mk #[])]]] [AVal.ptr 0 1 0 0, iI 262144] [AObj.rows true 1 [[AVal.str s]]] (iI (tkV s)) [AObj.rows true 1 [[AVal.str (tkR s)]]]) :: (tr 4 ++ []))))))))))))) by kernel_rfl) (allP_of ⟨⟨(@Go.L12.right_no (decide (tkV (ByteArray.extract (tkR s) (Int.toNat (tkV s)) (Int.toNat (↑(ByteArray.size (tkR s)) : Int))) ≤ (↑(ByteArray.size (tkR (ByteArray.extract (tkR s) (Int.toNat (tkV s)) (Int.toNat (↑(ByteArray.size (tkR s)) : Int))))) : Int))) h1), rfl, rfl, rfl⟩, (trC 3 ⟨⟨(@Go.L12.taken_ok (ByteArray.extract (tkR s) (Int.toNat (tkV s)) (Int.toNat (↑(ByteArray.size (tkR s)) : Int))) (262144) h2), rfl, rfl, rfl⟩, (trC 21 ⟨h3, (trC 20 ⟨h4, (trC 18 ⟨⟨(@Go.L12.right_ok (decide (tkV s ≤ (↑(ByteArray.size (tkR s)) : Int))) h5), rfl, rfl, rfl⟩, (trC 3 ⟨⟨(@Go.L12.taken_ok (s) (262144) h6), rfl, rfl, rfl⟩, (trC 4 trivial)⟩)⟩)⟩)⟩)⟩)⟩)).move ([0, 1, 2]) (by kernel_rfl) (by kernel_rfl) (by kernel_rfl)

theorem kP_3 (s : ByteArray)
    (h1 : tkOk (ByteArray.extract (tkR s) (Int.toNat (tkV s)) (Int.toNat (↑(ByteArray.size (tkR s)) : Int))) 262144 = false)
    (h2 : decide (0 ≤ tkV s ∧ tkV s ≤ (↑(ByteArray.size (tkR s)) : Int) ∧ (↑(ByteArray.size (tkR s)) : Int) ≤ (↑(ByteArray.size (tkR s)) : Int)) = true)
    (h3 : decide (0 ≤ (↑0 : Int) ∧ (↑0 : Int) ≤ tkV s ∧ tkV s ≤ (↑(ByteArray.size (tkR s)) : Int)) = true)
    (h4 : decide (tkV s ≤ (↑(ByteArray.size (tkR s)) : Int)) = true)
    (h5 : tkOk s 262144 = true) :
    FOk Try.prog 60 ([AVal.ptr 0 1 0 0, AVal.slc false 1 1 0 2 (some 2)]) ([AObj.rows true 1 [[AVal.str s]], AObj.rows false 1 [[AVal.iface 104 (AVal.ptr 2 2 0 0)], [AVal.iface 104 (AVal.ptr 2 2 0 1)]], AObj.rows true 2 [[AVal.str (ByteArray.mk #[]), AVal.str (ByteArray.mk #[])]]]) (AVal.pan 117) ([AObj.dead, AObj.rows false 1 [[AVal.iface 104 (AVal.ptr 2 2 0 0)], [AVal.iface 104 (AVal.ptr 2 2 0 1)]], AObj.rows true 2 [[AVal.str (ByteArray.extract (tkR s) 0 (Int.toNat (tkV s))), AVal.str (ByteArray.mk #[])]]]) :=
  (evalF_ok followed Try.func60 (by kernel_rfl) (show evalF Try.prog Try.f60 ([AVal.ptr 0 1 0 0, AVal.slc false 1 1 0 2 (some 2)]) ([AObj.rows true 1 [[AVal.str s]], AObj.rows false 1 [[AVal.iface 104 (AVal.ptr 2 2 0 0)], [AVal.iface 104 (AVal.ptr 2 2 0 1)]], AObj.rows true 2 [[AVal.str (ByteArray.mk #[]), AVal.str (ByteArray.mk #[])]]]) ([Dec.unroll 3, Dec.br true, Dec.use [0] [AVal.ptr 0 1 0 0, iI 262144] [AObj.rows true 1 [[AVal.str s]]] (iI (tkV s)) [AObj.rows true 1 [[AVal.str (tkR s)]]], Dec.use [] [AVal.bool (decide (tkV s ≤ (↑(ByteArray.size (tkR s)) : Int)))] [] (AVal.tuple []) [], Dec.br true, Dec.use [0] [AVal.ptr 0 1 0 0, iI 262144] [AObj.rows true 1 [[AVal.str (ByteArray.extract (tkR s) (Int.toNat (tkV s)) (Int.toNat (↑(ByteArray.size (tkR s)) : Int)))]]] (AVal.pan 117) [AObj.dead]]) = .ok (FRes.mk (AVal.pan 117) ([AObj.dead, AObj.rows false 1 [[AVal.iface 104 (AVal.ptr 2 2 0 0)], [AVal.iface 104 (AVal.ptr 2 2 0 1)]], AObj.rows true 2 [[AVal.str (ByteArray.extract (tkR s) 0 (Int.toNat (tkV s))), AVal.str (ByteArray.mk #[])]]]) ((Owed.use (owed Try.prog 3) 66 [0] [AVal.ptr 0 1 0 0, iI 262144] [AObj.rows true 1 [[AVal.str (ByteArray.extract (tkR s) (Int.toNat (tkV s)) (Int.toNat (↑(ByteArray.size (tkR s)) : Int)))]], AObj.rows false 1 [[AVal.iface 104 (AVal.ptr 2 2 0 0)], [AVal.iface 104 (AVal.ptr 2 2 0 1)]], AObj.rows true 2 [[AVal.str (ByteArray.extract (tkR s) 0 (Int.toNat (tkV s))), AVal.str (ByteArray.mk #[])]]] [AVal.ptr 0 1 0 0, iI 262144] [AObj.rows true 1 [[AVal.str (ByteArray.extract (tkR s) (Int.toNat (tkV s)) (Int.toNat (↑(ByteArray.size (tkR s)) : Int)))]]] (AVal.pan 117) [AObj.dead]) :: (tr 21 ++ ((decide (0 ≤ tkV s ∧ tkV s ≤ (↑(ByteArray.size (tkR s)) : Int) ∧ (↑(ByteArray.size (tkR s)) : Int) ≤ (↑(ByteArray.size (tkR s)) : Int)) = true) :: (tr 20 ++ ((decide (0 ≤ (↑0 : Int) ∧ (↑0 : Int) ≤ tkV s ∧ tkV s ≤ (↑(ByteArray.size (tkR s)) : Int)) = true) :: (tr 18 ++ ((Owed.use (owed Try.prog 3) 58 [] [AVal.bool (decide (tkV s ≤ (↑(ByteArray.size (tkR s)) : Int)))] [AObj.rows true 1 [[AVal.str (tkR s)]], AObj.rows false 1 [[AVal.iface 104 (AVal.ptr 2 2 0 0)], [AVal.iface 104 (AVal.ptr 2 2 0 1)]], AObj.rows true 2 [[AVal.str (ByteArray.mk #[]), AVal.str (ByteArray.mk #[])]]] [AVal.bool (decide (tkV s ≤ (↑(ByteArray.size (tkR s)) : Int)))] [] (AVal.tuple []) []) :: (tr 3 ++ ((Owed.use (owed Try.prog 3) 66 [0] [AVal.ptr 0 1 0 0, iI 262144] [AObj.rows true 1 [[AVal.str s]], AObj.rows false 1 [[AVal.iface 104 (AVal.ptr 2 2 0 0)], [AVal.iface 104 (AVal.ptr 2 2 0 1)]], AObj.rows true 2 [[AVal.str (ByteArray.mk #[]), AVal.str (ByteArray.mk #[])]]] [AVal.ptr 0 1 0 0, iI 262144] [AObj.rows true 1 [[AVal.str s]]] (iI (tkV s)) [AObj.rows true 1 [[AVal.str (tkR s)]]]) :: (tr 4 ++ []))))))))))) by kernel_rfl) (allP_of ⟨⟨(@Go.L12.taken_no (ByteArray.extract (tkR s) (Int.toNat (tkV s)) (Int.toNat (↑(ByteArray.size (tkR s)) : Int))) (262144) h1), rfl, rfl, rfl⟩, (trC 21 ⟨h2, (trC 20 ⟨h3, (trC 18 ⟨⟨(@Go.L12.right_ok (decide (tkV s ≤ (↑(ByteArray.size (tkR s)) : Int))) h4), rfl, rfl, rfl⟩, (trC 3 ⟨⟨(@Go.L12.taken_ok (s) (262144) h5), rfl, rfl, rfl⟩, (trC 4 trivial)⟩)⟩)⟩)⟩)⟩)).move ([0, 1, 2]) (by kernel_rfl) (by kernel_rfl) (by kernel_rfl)

theorem kP_4 (s : ByteArray)
    (h1 : decide (tkV s ≤ (↑(ByteArray.size (tkR s)) : Int)) = false)
    (h2 : tkOk s 262144 = true) :
    FOk Try.prog 60 ([AVal.ptr 0 1 0 0, AVal.slc false 1 1 0 2 (some 2)]) ([AObj.rows true 1 [[AVal.str s]], AObj.rows false 1 [[AVal.iface 104 (AVal.ptr 2 2 0 0)], [AVal.iface 104 (AVal.ptr 2 2 0 1)]], AObj.rows true 2 [[AVal.str (ByteArray.mk #[]), AVal.str (ByteArray.mk #[])]]]) (AVal.pan 117) ([AObj.rows true 1 [[AVal.str (tkR s)]], AObj.rows false 1 [[AVal.iface 104 (AVal.ptr 2 2 0 0)], [AVal.iface 104 (AVal.ptr 2 2 0 1)]], AObj.rows true 2 [[AVal.str (ByteArray.mk #[]), AVal.str (ByteArray.mk #[])]]]) :=
  (evalF_ok followed Try.func60 (by kernel_rfl) (show evalF Try.prog Try.f60 ([AVal.ptr 0 1 0 0, AVal.slc false 1 1 0 2 (some 2)]) ([AObj.rows true 1 [[AVal.str s]], AObj.rows false 1 [[AVal.iface 104 (AVal.ptr 2 2 0 0)], [AVal.iface 104 (AVal.ptr 2 2 0 1)]], AObj.rows true 2 [[AVal.str (ByteArray.mk #[]), AVal.str (ByteArray.mk #[])]]]) ([Dec.unroll 3, Dec.br true, Dec.use [0] [AVal.ptr 0 1 0 0, iI 262144] [AObj.rows true 1 [[AVal.str s]]] (iI (tkV s)) [AObj.rows true 1 [[AVal.str (tkR s)]]], Dec.use [] [AVal.bool (decide (tkV s ≤ (↑(ByteArray.size (tkR s)) : Int)))] [] (AVal.pan 117) []]) = .ok (FRes.mk (AVal.pan 117) ([AObj.rows true 1 [[AVal.str (tkR s)]], AObj.rows false 1 [[AVal.iface 104 (AVal.ptr 2 2 0 0)], [AVal.iface 104 (AVal.ptr 2 2 0 1)]], AObj.rows true 2 [[AVal.str (ByteArray.mk #[]), AVal.str (ByteArray.mk #[])]]]) ((Owed.use (owed Try.prog 3) 58 [] [AVal.bool (decide (tkV s ≤ (↑(ByteArray.size (tkR s)) : Int)))] [AObj.rows true 1 [[AVal.str (tkR s)]], AObj.rows false 1 [[AVal.iface 104 (AVal.ptr 2 2 0 0)], [AVal.iface 104 (AVal.ptr 2 2 0 1)]], AObj.rows true 2 [[AVal.str (ByteArray.mk #[]), AVal.str (ByteArray.mk #[])]]] [AVal.bool (decide (tkV s ≤ (↑(ByteArray.size (tkR s)) : Int)))] [] (AVal.pan 117) []) :: (tr 3 ++ ((Owed.use (owed Try.prog 3) 66 [0] [AVal.ptr 0 1 0 0, iI 262144] [AObj.rows true 1 [[AVal.str s]], AObj.rows false 1 [[AVal.iface 104 (AVal.ptr 2 2 0 0)], [AVal.iface 104 (AVal.ptr 2 2 0 1)]], AObj.rows true 2 [[AVal.str (ByteArray.mk #[]), AVal.str (ByteArray.mk #[])]]] [AVal.ptr 0 1 0 0, iI 262144] [AObj.rows true 1 [[AVal.str s]]] (iI (tkV s)) [AObj.rows true 1 [[AVal.str (tkR s)]]]) :: (tr 4 ++ []))))) by kernel_rfl) (allP_of ⟨⟨(@Go.L12.right_no (decide (tkV s ≤ (↑(ByteArray.size (tkR s)) : Int))) h1), rfl, rfl, rfl⟩, (trC 3 ⟨⟨(@Go.L12.taken_ok (s) (262144) h2), rfl, rfl, rfl⟩, (trC 4 trivial)⟩)⟩)).move ([0, 1, 2]) (by kernel_rfl) (by kernel_rfl) (by kernel_rfl)

theorem kP_5 (s : ByteArray)
    (h1 : tkOk s 262144 = false) :
    FOk Try.prog 60 ([AVal.ptr 0 1 0 0, AVal.slc false 1 1 0 2 (some 2)]) ([AObj.rows true 1 [[AVal.str s]], AObj.rows false 1 [[AVal.iface 104 (AVal.ptr 2 2 0 0)], [AVal.iface 104 (AVal.ptr 2 2 0 1)]], AObj.rows true 2 [[AVal.str (ByteArray.mk #[]), AVal.str (ByteArray.mk #[])]]]) (AVal.pan 117) ([AObj.dead, AObj.rows false 1 [[AVal.iface 104 (AVal.ptr 2 2 0 0)], [AVal.iface 104 (AVal.ptr 2 2 0 1)]], AObj.rows true 2 [[AVal.str (ByteArray.mk #[]), AVal.str (ByteArray.mk #[])]]]) :=
  (evalF_ok followed Try.func60 (by kernel_rfl) (show evalF Try.prog Try.f60 ([AVal.ptr 0 1 0 0, AVal.slc false 1 1 0 2 (some 2)]) ([AObj.rows true 1 [[AVal.str s]], AObj.rows false 1 [[AVal.iface 104 (AVal.ptr 2 2 0 0)], [AVal.iface 104 (AVal.ptr 2 2 0 1)]], AObj.rows true 2 [[AVal.str (ByteArray.mk #[]), AVal.str (ByteArray.mk #[])]]]) ([Dec.unroll 3, Dec.br true, Dec.use [0] [AVal.ptr 0 1 0 0, iI 262144] [AObj.rows true 1 [[AVal.str s]]] (AVal.pan 117) [AObj.dead]]) = .ok (FRes.mk (AVal.pan 117) ([AObj.dead, AObj.rows false 1 [[AVal.iface 104 (AVal.ptr 2 2 0 0)], [AVal.iface 104 (AVal.ptr 2 2 0 1)]], AObj.rows true 2 [[AVal.str (ByteArray.mk #[]), AVal.str (ByteArray.mk #[])]]]) ((Owed.use (owed Try.prog 3) 66 [0] [AVal.ptr 0 1 0 0, iI 262144] [AObj.rows true 1 [[AVal.str s]], AObj.rows false 1 [[AVal.iface 104 (AVal.ptr 2 2 0 0)], [AVal.iface 104 (AVal.ptr 2 2 0 1)]], AObj.rows true 2 [[AVal.str (ByteArray.mk #[]), AVal.str (ByteArray.mk #[])]]] [AVal.ptr 0 1 0 0, iI 262144] [AObj.rows true 1 [[AVal.str s]]] (AVal.pan 117) [AObj.dead]) :: (tr 4 ++ []))) by kernel_rfl) (allP_of ⟨⟨(@Go.L12.taken_no (s) (262144) h1), rfl, rfl, rfl⟩, (trC 4 trivial)⟩)).move ([0, 1, 2]) (by kernel_rfl) (by kernel_rfl) (by kernel_rfl)

end Go.L12
end

section
set_option linter.unusedVariables false
set_option linter.unusedSimpArgs false
set_option maxRecDepth 100000
namespace Go.L12
open Go Go.Abs Go.Proofs
theorem takeR_E (s : ByteArray) : takeR 111 s = match (tI 1099511627776 s).map (fun x => ((AVal.int .i64 x.1), x.2)) with | none => none | some x => match (tS x.2).map (fun x => ((AVal.str x.1), x.2)) with | none => none | some y => some ([x.1, y.1], y.2) := rfl
theorem takeR_P (s : ByteArray) : takeR 112 s = match (tS s).map (fun x => ((AVal.str x.1), x.2)) with | none => none | some x => match (tS x.2).map (fun x => ((AVal.str x.1), x.2)) with | none => none | some y => some ([x.1, y.1], y.2) := rfl
theorem tS_ok {s : ByteArray} (h : tkOk s 262144 = true) (h2 : tkV s ≤ ((tkR s).size : Int)) : tS s = some ((tkR s).extract 0 (tkV s).toNat, (tkR s).extract (tkV s).toNat (tkR s).size) := by unfold tS; rw [if_pos h, if_pos h2]
theorem tS_no2 {s : ByteArray} (h : tkOk s 262144 = true) (h2 : ¬ tkV s ≤ ((tkR s).size : Int)) : tS s = none := by unfold tS; rw [if_pos h, if_neg h2]
theorem tS_no1 {s : ByteArray} (h : tkOk s 262144 = false) : tS s = none := by unfold tS; rw [if_neg (by rw [h]; simp)]
theorem tkV0 (s : ByteArray) : 0 ≤ tkV s := Int.natCast_nonneg _
theorem takesE_ok (s : ByteArray) (h : (takeR 111 s).isSome = true) :
    FOk Try.prog 60 [.ptr 0 1 0 0, .slc false 1 1 0 2 (some 2)] [.rows true 1 [[.str s]], .rows false 1 [[.iface 100 (.ptr 2 2 0 0)], [.iface 104 (.ptr 2 2 0 1)]], .rows true 2 [[.int .i64 0, .str ⟨#[]⟩]]] (.tuple [])
      [.rows true 1 [[.str ((takeR 111 s).getD ([], ⟨#[]⟩)).2]], .rows false 1 [[.iface 100 (.ptr 2 2 0 0)], [.iface 104 (.ptr 2 2 0 1)]], .rows true 2 [[.int .i64 (List.getD ((takeR 111 s).getD ([], ⟨#[]⟩)).1 0 .any).toInt, .str (List.getD ((takeR 111 s).getD ([], ⟨#[]⟩)).1 1 .any).toStr]]] := by
  have v1 := tkV0 (tkR s)
  cases h1 : tkOk s 1099511627776 with
  | false => rw [takeR_E, show tI 1099511627776 s = none from by unfold tI; rw [if_neg (by rw [h1]; simp)]] at h; cases h
  | true =>
    have e1 : tI 1099511627776 s = some (tkV s, tkR s) := by unfold tI; rw [if_pos h1]
    cases h2 : tkOk (tkR s) 262144 with
    | false => rw [takeR_E, e1] at h; simp only [Option.map_some] at h; rw [tS_no1 h2] at h; cases h
    | true =>
      by_cases h3 : tkV (tkR s) ≤ ((tkR (tkR s)).size : Int)
      · have e : takeR 111 s = some ([.int .i64 (tkV s), .str ((tkR (tkR s)).extract 0 (tkV (tkR s)).toNat)], (tkR (tkR s)).extract (tkV (tkR s)).toNat (tkR (tkR s)).size) := by
          rw [takeR_E, e1]; simp only [Option.map_some]; rw [tS_ok h2 h3]; rfl
        have key := kE_1 s (decide_eq_true ⟨v1, h3, Int.le_refl _⟩) (decide_eq_true ⟨Int.le_refl _, v1, h3⟩) (decide_eq_true h3) h2 h1
        rw [Int.toNat_natCast] at key
        rw [e]
        simp only [Option.getD_some, List.getD_cons_zero, List.getD_cons_succ, AVal.toInt, AVal.toStr]
        exact key
      · rw [takeR_E, e1] at h; simp only [Option.map_some] at h; rw [tS_no2 h2 h3] at h; cases h
theorem takesE_no (s : ByteArray) (h : (takeR 111 s).isSome = false) :
    FOk Try.prog 60 [.ptr 0 1 0 0, .slc false 1 1 0 2 (some 2)] [.rows true 1 [[.str s]], .rows false 1 [[.iface 100 (.ptr 2 2 0 0)], [.iface 104 (.ptr 2 2 0 1)]], .rows true 2 [[.int .i64 0, .str ⟨#[]⟩]]] (.pan 117) [.dead, .dead, .dead] := by
  cases h1 : tkOk s 1099511627776 with
  | false => exact (kE_4 s h1).pan
  | true =>
    have e1 : tI 1099511627776 s = some (tkV s, tkR s) := by unfold tI; rw [if_pos h1]
    cases h2 : tkOk (tkR s) 262144 with
    | false => exact (kE_3 s h2 h1).pan
    | true =>
      by_cases h3 : tkV (tkR s) ≤ ((tkR (tkR s)).size : Int)
      · rw [takeR_E, e1] at h; simp only [Option.map_some] at h; rw [tS_ok h2 h3] at h; cases h
      · exact (kE_2 s (decide_eq_false h3) h2 h1).pan
theorem takesP_ok (s : ByteArray) (h : (takeR 112 s).isSome = true) :
    FOk Try.prog 60 [.ptr 0 1 0 0, .slc false 1 1 0 2 (some 2)] [.rows true 1 [[.str s]], .rows false 1 [[.iface 104 (.ptr 2 2 0 0)], [.iface 104 (.ptr 2 2 0 1)]], .rows true 2 [[.str ⟨#[]⟩, .str ⟨#[]⟩]]] (.tuple [])
      [.rows true 1 [[.str ((takeR 112 s).getD ([], ⟨#[]⟩)).2]], .rows false 1 [[.iface 104 (.ptr 2 2 0 0)], [.iface 104 (.ptr 2 2 0 1)]], .rows true 2 [[.str (List.getD ((takeR 112 s).getD ([], ⟨#[]⟩)).1 0 .any).toStr, .str (List.getD ((takeR 112 s).getD ([], ⟨#[]⟩)).1 1 .any).toStr]]] := by
  have v1 := tkV0 s
  cases h1 : tkOk s 262144 with
  | false => rw [takeR_P, tS_no1 h1] at h; cases h
  | true =>
    by_cases h3 : tkV s ≤ ((tkR s).size : Int)
    · generalize hq : (tkR s).extract (tkV s).toNat (tkR s).size = q
      have v2 := tkV0 q
      have e1 : tS s = some ((tkR s).extract 0 (tkV s).toNat, q) := by rw [tS_ok h1 h3, hq]
      cases h2 : tkOk q 262144 with
      | false => rw [takeR_P, e1] at h; simp only [Option.map_some] at h; rw [tS_no1 h2] at h; cases h
      | true =>
        by_cases h4 : tkV q ≤ ((tkR q).size : Int)
        · have e : takeR 112 s = some ([.str ((tkR s).extract 0 (tkV s).toNat), .str ((tkR q).extract 0 (tkV q).toNat)], (tkR q).extract (tkV q).toNat (tkR q).size) := by
            rw [takeR_P, e1]; simp only [Option.map_some]; rw [tS_ok h2 h4]; rfl
          have key := kP_1 s
          rw [Int.toNat_natCast, hq] at key
          have key := key (decide_eq_true ⟨v2, h4, Int.le_refl _⟩) (decide_eq_true ⟨Int.le_refl _, v2, h4⟩) (decide_eq_true h4) h2 (decide_eq_true ⟨v1, h3, Int.le_refl _⟩) (decide_eq_true ⟨Int.le_refl _, v1, h3⟩) (decide_eq_true h3) h1
          rw [Int.toNat_natCast] at key
          rw [e]
          simp only [Option.getD_some, List.getD_cons_zero, List.getD_cons_succ, AVal.toInt, AVal.toStr]
          exact key
        · rw [takeR_P, e1] at h; simp only [Option.map_some] at h; rw [tS_no2 h2 h4] at h; cases h
    · rw [takeR_P, tS_no2 h1 h3] at h; cases h
theorem takesP_no (s : ByteArray) (h : (takeR 112 s).isSome = false) :
    FOk Try.prog 60 [.ptr 0 1 0 0, .slc false 1 1 0 2 (some 2)] [.rows true 1 [[.str s]], .rows false 1 [[.iface 104 (.ptr 2 2 0 0)], [.iface 104 (.ptr 2 2 0 1)]], .rows true 2 [[.str ⟨#[]⟩, .str ⟨#[]⟩]]] (.pan 117) [.dead, .dead, .dead] := by
  have v1 := tkV0 s
  cases h1 : tkOk s 262144 with
  | false => exact (kP_5 s h1).pan
  | true =>
    by_cases h3 : tkV s ≤ ((tkR s).size : Int)
    · generalize hq : (tkR s).extract (tkV s).toNat (tkR s).size = q
      have e1 : tS s = some ((tkR s).extract 0 (tkV s).toNat, q) := by rw [tS_ok h1 h3, hq]
      cases h2 : tkOk q 262144 with
      | false =>
        have key := kP_3 s
        rw [Int.toNat_natCast, hq] at key
        exact (key h2 (decide_eq_true ⟨v1, h3, Int.le_refl _⟩) (decide_eq_true ⟨Int.le_refl _, v1, h3⟩) (decide_eq_true h3) h1).pan
      | true =>
        by_cases h4 : tkV q ≤ ((tkR q).size : Int)
        · rw [takeR_P, e1] at h; simp only [Option.map_some] at h; rw [tS_ok h2 h4] at h; cases h
        · have key := kP_2 s
          rw [Int.toNat_natCast, hq] at key
          exact (key (decide_eq_false h4) h2 (decide_eq_true ⟨v1, h3, Int.le_refl _⟩) (decide_eq_true ⟨Int.le_refl _, v1, h3⟩) (decide_eq_true h3) h1).pan
    · exact (kP_4 s (decide_eq_false h3) h1).pan
end Go.L12
end

section
set_option linter.unusedVariables false
set_option maxRecDepth 100000
namespace Go.L12
open Go Go.Abs Go.Proofs
def rgtM (i : Int) : Regs := mkR 117 [(0, .ptr 0 1 0 0), (15, .slc false 1 1 0 11 none), (16, .int .i64 11), (17, .int .i64 i)]
abbrev hptM (u0 : List AVal) (s : ByteArray) : AState := [.rows true 1 [[.str s]], .rows false 1 (flM 2), .rows true 11 [u0]]
theorem tMI0_1 (u0 : List AVal) (i : Int) (j : Nat) (s : ByteArray)
    (h1 : decide (j + 1 ≤ 11) = true)
    (h2 : tkOk s 1099511627776 = true)
    (h3 : asType Try.prog 20 [List.getD (List.getD (flM 2) (Int.toNat i) []) 0 AVal.any] = AVal.iface 100 (AVal.ptr 2 11 0 j))
    (h4 : decide (Int.toNat i < 11) = true)
    (h5 : decide (0 ≤ i ∧ i < (↑11 : Int)) = true)
    (h6 : decide (i < 11) = true) :
    TripN Try.prog 3 (loopNo Try.f60 0) (rgtM i) (hptM u0 s) (AExit.normal) (mkR 117 [(0, AVal.ptr 0 1 0 0), (15, AVal.slc false 1 1 0 11 none), (16, iI 11), (17, iI (IntKind.wrap IntKind.i64 (i + 1)))]) ([AObj.rows true 1 [[AVal.str (tkR s)]], AObj.rows false 1 (flM 2), AObj.rows true 11 [setCells u0 j [iI (tkV s)]]]) :=
  evalT (st := St.mk (rgtM i) (hptM u0 s) ([Dec.br true, Dec.rwl (AVal.iface 100 (AVal.ptr 2 11 0 j)), Dec.use [0] [AVal.ptr 0 1 0 0, iI 1099511627776] [AObj.rows true 1 [[AVal.str s]]] (iI (tkV s)) [AObj.rows true 1 [[AVal.str (tkR s)]]]]) []) (st' := St.mk (mkR 117 [(0, AVal.ptr 0 1 0 0), (5, AVal.iface 100 (AVal.ptr 2 11 0 j)), (6, AVal.ptr 2 11 0 j), (15, AVal.slc false 1 1 0 11 none), (16, iI 11), (17, iI (IntKind.wrap IntKind.i64 (i + 1))), (18, AVal.tt true), (19, AVal.ptr 1 1 (Int.toNat i) 0), (20, AVal.iface 100 (AVal.ptr 2 11 0 j)), (21, AVal.iface 100 (AVal.ptr 2 11 0 j)), (22, AVal.tuple [AVal.ptr 2 11 0 j, AVal.tt true]), (23, AVal.tt true), (24, AVal.ptr 2 11 0 j), (25, AVal.ptr 2 11 0 j), (26, AVal.ptr 0 1 0 0), (27, iI (tkV s)), (28, AVal.ptr 2 11 0 j), (116, iI (IntKind.wrap IntKind.i64 (i + 1)))]) ([AObj.rows true 1 [[AVal.str (tkR s)]], AObj.rows false 1 (flM 2), AObj.rows true 11 [setCells u0 j [iI (tkV s)]]]) ([]) (tr 1 ++ ((decide (j + 1 ≤ 11) = true) :: ((Owed.use (owed Try.prog 3) 66 [0] [AVal.ptr 0 1 0 0, iI 1099511627776] [AObj.rows true 1 [[AVal.str s]], AObj.rows false 1 (flM 2), AObj.rows true 11 [u0]] [AVal.ptr 0 1 0 0, iI 1099511627776] [AObj.rows true 1 [[AVal.str s]]] (iI (tkV s)) [AObj.rows true 1 [[AVal.str (tkR s)]]]) :: ((asType Try.prog 20 [List.getD (List.getD (flM 2) (Int.toNat i) []) 0 AVal.any] = AVal.iface 100 (AVal.ptr 2 11 0 j)) :: ((decide (Int.toNat i < 11) = true) :: (tr 1 ++ ((decide (0 ≤ i ∧ i < (↑11 : Int)) = true) :: ((decide (i < 11) = true) :: []))))))))) followed (by kernel_rfl) (allP_of (trC 1 ⟨h1, ⟨⟨(@Go.L12.taken_ok (s) (1099511627776) h2), rfl, rfl, rfl⟩, ⟨h3, ⟨h4, (trC 1 ⟨h5, ⟨h6, trivial⟩⟩)⟩⟩⟩⟩)) (keepM 117 [0, 15, 16, 17]) ([0, 1, 2]) (by kernel_rfl) (by kernel_rfl) (by kernel_rfl)

theorem tMI0_2 (u0 : List AVal) (i : Int) (j : Nat) (s : ByteArray)
    (h1 : tkOk s 1099511627776 = false)
    (h2 : asType Try.prog 20 [List.getD (List.getD (flM 2) (Int.toNat i) []) 0 AVal.any] = AVal.iface 100 (AVal.ptr 2 11 0 j))
    (h3 : decide (Int.toNat i < 11) = true)
    (h4 : decide (0 ≤ i ∧ i < (↑11 : Int)) = true)
    (h5 : decide (i < 11) = true) :
    TripN Try.prog 3 (loopNo Try.f60 0) (rgtM i) (hptM u0 s) (AExit.pan 117) (mkR 117 [(0, AVal.ptr 0 1 0 0), (15, AVal.slc false 1 1 0 11 none), (16, iI 11), (17, iI i)]) ([AObj.dead, AObj.rows false 1 (flM 2), AObj.rows true 11 [u0]]) :=
  evalT (st := St.mk (rgtM i) (hptM u0 s) ([Dec.br true, Dec.rwl (AVal.iface 100 (AVal.ptr 2 11 0 j)), Dec.use [0] [AVal.ptr 0 1 0 0, iI 1099511627776] [AObj.rows true 1 [[AVal.str s]]] (AVal.pan 117) [AObj.dead]]) []) (st' := St.mk (mkR 117 [(0, AVal.ptr 0 1 0 0), (5, AVal.iface 100 (AVal.ptr 2 11 0 j)), (6, AVal.ptr 2 11 0 j), (15, AVal.slc false 1 1 0 11 none), (16, iI 11), (17, iI i), (18, AVal.tt true), (19, AVal.ptr 1 1 (Int.toNat i) 0), (20, AVal.iface 100 (AVal.ptr 2 11 0 j)), (21, AVal.iface 100 (AVal.ptr 2 11 0 j)), (22, AVal.tuple [AVal.ptr 2 11 0 j, AVal.tt true]), (23, AVal.tt true), (24, AVal.ptr 2 11 0 j), (25, AVal.ptr 2 11 0 j), (26, AVal.ptr 0 1 0 0)]) ([AObj.dead, AObj.rows false 1 (flM 2), AObj.rows true 11 [u0]]) ([]) ((Owed.use (owed Try.prog 3) 66 [0] [AVal.ptr 0 1 0 0, iI 1099511627776] [AObj.rows true 1 [[AVal.str s]], AObj.rows false 1 (flM 2), AObj.rows true 11 [u0]] [AVal.ptr 0 1 0 0, iI 1099511627776] [AObj.rows true 1 [[AVal.str s]]] (AVal.pan 117) [AObj.dead]) :: ((asType Try.prog 20 [List.getD (List.getD (flM 2) (Int.toNat i) []) 0 AVal.any] = AVal.iface 100 (AVal.ptr 2 11 0 j)) :: ((decide (Int.toNat i < 11) = true) :: (tr 1 ++ ((decide (0 ≤ i ∧ i < (↑11 : Int)) = true) :: ((decide (i < 11) = true) :: []))))))) followed (by kernel_rfl) (allP_of ⟨⟨(@Go.L12.taken_no (s) (1099511627776) h1), rfl, rfl, rfl⟩, ⟨h2, ⟨h3, (trC 1 ⟨h4, ⟨h5, trivial⟩⟩)⟩⟩⟩) (keepM 117 [0, 15, 16, 17]) ([0, 1, 2]) (by kernel_rfl) (by kernel_rfl) (by kernel_rfl)

def tMI0_T (u0 : List AVal) (i : Int) (j : Nat) (s : ByteArray) (Q : AExit → Regs → AState → Prop) : Prop := (decide (i < 11) = true) ∧ (decide (0 ≤ i ∧ i < (↑11 : Int)) = true) ∧ (decide (Int.toNat i < 11) = true) ∧ (asType Try.prog 20 [List.getD (List.getD (flM 2) (Int.toNat i) []) 0 AVal.any] = AVal.iface 100 (AVal.ptr 2 11 0 j)) ∧ ((((tkOk s 1099511627776 = true)) → (decide (j + 1 ≤ 11) = true) ∧ Q (AExit.normal) (mkR 117 [(0, AVal.ptr 0 1 0 0), (15, AVal.slc false 1 1 0 11 none), (16, iI 11), (17, iI (IntKind.wrap IntKind.i64 (i + 1)))]) ([AObj.rows true 1 [[AVal.str (tkR s)]], AObj.rows false 1 (flM 2), AObj.rows true 11 [setCells u0 j [iI (tkV s)]]])) ∧ (((tkOk s 1099511627776 = false)) → Q (AExit.pan 117) (mkR 117 [(0, AVal.ptr 0 1 0 0), (15, AVal.slc false 1 1 0 11 none), (16, iI 11), (17, iI i)]) ([AObj.dead, AObj.rows false 1 (flM 2), AObj.rows true 11 [u0]])) ∧ (((tkOk s 1099511627776 = true)) ∨ ((tkOk s 1099511627776 = false))))
theorem tMI0_wp (u0 : List AVal) (i : Int) (j : Nat) (s : ByteArray) {Q : AExit → Regs → AState → Prop} (h : tMI0_T u0 i j s Q) : ∃ e rg' σ', TripN Try.prog 3 (loopNo Try.f60 0) (rgtM i) (hptM u0 s) e rg' σ' ∧ Q e rg' σ' :=
  Or.elim h.2.2.2.2.2.2 (fun (c0 : (tkOk s 1099511627776 = true)) => ⟨_, _, _, tMI0_1 u0 i j s ((h.2.2.2.2.1 c0).1) (c0) (h.2.2.2.1) (h.2.2.1) (h.2.1) (h.1), (h.2.2.2.2.1 c0).2⟩) (fun (c1 : (tkOk s 1099511627776 = false)) => ⟨_, _, _, tMI0_2 u0 i j s (c1) (h.2.2.2.1) (h.2.2.1) (h.2.1) (h.1), (h.2.2.2.2.2.1 c1)⟩)


theorem tMB0_1 (u0 : List AVal) (i : Int) (j : Nat) (s : ByteArray)
    (h1 : decide (j + 1 ≤ 11) = true)
    (h2 : tkOk s 1 = true)
    (h3 : asType Try.prog 20 [List.getD (List.getD (flM 2) (Int.toNat i) []) 0 AVal.any] = AVal.iface 101 (AVal.ptr 2 11 0 j))
    (h4 : decide (Int.toNat i < 11) = true)
    (h5 : decide (0 ≤ i ∧ i < (↑11 : Int)) = true)
    (h6 : decide (i < 11) = true) :
    TripN Try.prog 3 (loopNo Try.f60 0) (rgtM i) (hptM u0 s) (AExit.normal) (mkR 117 [(0, AVal.ptr 0 1 0 0), (15, AVal.slc false 1 1 0 11 none), (16, iI 11), (17, iI (IntKind.wrap IntKind.i64 (i + 1)))]) ([AObj.rows true 1 [[AVal.str (tkR s)]], AObj.rows false 1 (flM 2), AObj.rows true 11 [setCells u0 j [AVal.bool (tkV s == 1)]]]) :=
  evalT (st := St.mk (rgtM i) (hptM u0 s) ([Dec.br true, Dec.rwl (AVal.iface 101 (AVal.ptr 2 11 0 j)), Dec.use [0] [AVal.ptr 0 1 0 0, iI 1] [AObj.rows true 1 [[AVal.str s]]] (iI (tkV s)) [AObj.rows true 1 [[AVal.str (tkR s)]]]]) []) (st' := St.mk (mkR 117 [(0, AVal.ptr 0 1 0 0), (5, AVal.iface 101 (AVal.ptr 2 11 0 j)), (8, AVal.ptr 2 11 0 j), (15, AVal.slc false 1 1 0 11 none), (16, iI 11), (17, iI (IntKind.wrap IntKind.i64 (i + 1))), (18, AVal.tt true), (19, AVal.ptr 1 1 (Int.toNat i) 0), (20, AVal.iface 101 (AVal.ptr 2 11 0 j)), (21, AVal.iface 101 (AVal.ptr 2 11 0 j)), (22, AVal.tuple [AVal.nilp, AVal.tt false]), (23, AVal.tt false), (24, AVal.nilp), (29, AVal.tuple [AVal.nilp, AVal.tt false]), (30, AVal.tt false), (31, AVal.nilp), (36, AVal.tuple [AVal.ptr 2 11 0 j, AVal.tt true]), (37, AVal.tt true), (38, AVal.ptr 2 11 0 j), (39, AVal.ptr 2 11 0 j), (40, AVal.ptr 0 1 0 0), (41, iI (tkV s)), (42, AVal.bool (tkV s == 1)), (43, AVal.ptr 2 11 0 j), (116, iI (IntKind.wrap IntKind.i64 (i + 1)))]) ([AObj.rows true 1 [[AVal.str (tkR s)]], AObj.rows false 1 (flM 2), AObj.rows true 11 [setCells u0 j [AVal.bool (tkV s == 1)]]]) ([]) (tr 1 ++ ((decide (j + 1 ≤ 11) = true) :: ((Owed.use (owed Try.prog 3) 66 [0] [AVal.ptr 0 1 0 0, iI 1] [AObj.rows true 1 [[AVal.str s]], AObj.rows false 1 (flM 2), AObj.rows true 11 [u0]] [AVal.ptr 0 1 0 0, iI 1] [AObj.rows true 1 [[AVal.str s]]] (iI (tkV s)) [AObj.rows true 1 [[AVal.str (tkR s)]]]) :: ((asType Try.prog 20 [List.getD (List.getD (flM 2) (Int.toNat i) []) 0 AVal.any] = AVal.iface 101 (AVal.ptr 2 11 0 j)) :: ((decide (Int.toNat i < 11) = true) :: (tr 1 ++ ((decide (0 ≤ i ∧ i < (↑11 : Int)) = true) :: ((decide (i < 11) = true) :: []))))))))) followed (by kernel_rfl) (allP_of (trC 1 ⟨h1, ⟨⟨(@Go.L12.taken_ok (s) (1) h2), rfl, rfl, rfl⟩, ⟨h3, ⟨h4, (trC 1 ⟨h5, ⟨h6, trivial⟩⟩)⟩⟩⟩⟩)) (keepM 117 [0, 15, 16, 17]) ([0, 1, 2]) (by kernel_rfl) (by kernel_rfl) (by kernel_rfl)

theorem tMB0_2 (u0 : List AVal) (i : Int) (j : Nat) (s : ByteArray)
    (h1 : tkOk s 1 = false)
    (h2 : asType Try.prog 20 [List.getD (List.getD (flM 2) (Int.toNat i) []) 0 AVal.any] = AVal.iface 101 (AVal.ptr 2 11 0 j))
    (h3 : decide (Int.toNat i < 11) = true)
    (h4 : decide (0 ≤ i ∧ i < (↑11 : Int)) = true)
    (h5 : decide (i < 11) = true) :
    TripN Try.prog 3 (loopNo Try.f60 0) (rgtM i) (hptM u0 s) (AExit.pan 117) (mkR 117 [(0, AVal.ptr 0 1 0 0), (15, AVal.slc false 1 1 0 11 none), (16, iI 11), (17, iI i)]) ([AObj.dead, AObj.rows false 1 (flM 2), AObj.rows true 11 [u0]]) :=
  evalT (st := St.mk (rgtM i) (hptM u0 s) ([Dec.br true, Dec.rwl (AVal.iface 101 (AVal.ptr 2 11 0 j)), Dec.use [0] [AVal.ptr 0 1 0 0, iI 1] [AObj.rows true 1 [[AVal.str s]]] (AVal.pan 117) [AObj.dead]]) []) (st' := St.mk (mkR 117 [(0, AVal.ptr 0 1 0 0), (5, AVal.iface 101 (AVal.ptr 2 11 0 j)), (8, AVal.ptr 2 11 0 j), (15, AVal.slc false 1 1 0 11 none), (16, iI 11), (17, iI i), (18, AVal.tt true), (19, AVal.ptr 1 1 (Int.toNat i) 0), (20, AVal.iface 101 (AVal.ptr 2 11 0 j)), (21, AVal.iface 101 (AVal.ptr 2 11 0 j)), (22, AVal.tuple [AVal.nilp, AVal.tt false]), (23, AVal.tt false), (24, AVal.nilp), (29, AVal.tuple [AVal.nilp, AVal.tt false]), (30, AVal.tt false), (31, AVal.nilp), (36, AVal.tuple [AVal.ptr 2 11 0 j, AVal.tt true]), (37, AVal.tt true), (38, AVal.ptr 2 11 0 j), (39, AVal.ptr 2 11 0 j), (40, AVal.ptr 0 1 0 0)]) ([AObj.dead, AObj.rows false 1 (flM 2), AObj.rows true 11 [u0]]) ([]) ((Owed.use (owed Try.prog 3) 66 [0] [AVal.ptr 0 1 0 0, iI 1] [AObj.rows true 1 [[AVal.str s]], AObj.rows false 1 (flM 2), AObj.rows true 11 [u0]] [AVal.ptr 0 1 0 0, iI 1] [AObj.rows true 1 [[AVal.str s]]] (AVal.pan 117) [AObj.dead]) :: ((asType Try.prog 20 [List.getD (List.getD (flM 2) (Int.toNat i) []) 0 AVal.any] = AVal.iface 101 (AVal.ptr 2 11 0 j)) :: ((decide (Int.toNat i < 11) = true) :: (tr 1 ++ ((decide (0 ≤ i ∧ i < (↑11 : Int)) = true) :: ((decide (i < 11) = true) :: []))))))) followed (by kernel_rfl) (allP_of ⟨⟨(@Go.L12.taken_no (s) (1) h1), rfl, rfl, rfl⟩, ⟨h2, ⟨h3, (trC 1 ⟨h4, ⟨h5, trivial⟩⟩)⟩⟩⟩) (keepM 117 [0, 15, 16, 17]) ([0, 1, 2]) (by kernel_rfl) (by kernel_rfl) (by kernel_rfl)

def tMB0_T (u0 : List AVal) (i : Int) (j : Nat) (s : ByteArray) (Q : AExit → Regs → AState → Prop) : Prop := (decide (i < 11) = true) ∧ (decide (0 ≤ i ∧ i < (↑11 : Int)) = true) ∧ (decide (Int.toNat i < 11) = true) ∧ (asType Try.prog 20 [List.getD (List.getD (flM 2) (Int.toNat i) []) 0 AVal.any] = AVal.iface 101 (AVal.ptr 2 11 0 j)) ∧ ((((tkOk s 1 = true)) → (decide (j + 1 ≤ 11) = true) ∧ Q (AExit.normal) (mkR 117 [(0, AVal.ptr 0 1 0 0), (15, AVal.slc false 1 1 0 11 none), (16, iI 11), (17, iI (IntKind.wrap IntKind.i64 (i + 1)))]) ([AObj.rows true 1 [[AVal.str (tkR s)]], AObj.rows false 1 (flM 2), AObj.rows true 11 [setCells u0 j [AVal.bool (tkV s == 1)]]])) ∧ (((tkOk s 1 = false)) → Q (AExit.pan 117) (mkR 117 [(0, AVal.ptr 0 1 0 0), (15, AVal.slc false 1 1 0 11 none), (16, iI 11), (17, iI i)]) ([AObj.dead, AObj.rows false 1 (flM 2), AObj.rows true 11 [u0]])) ∧ (((tkOk s 1 = true)) ∨ ((tkOk s 1 = false))))
theorem tMB0_wp (u0 : List AVal) (i : Int) (j : Nat) (s : ByteArray) {Q : AExit → Regs → AState → Prop} (h : tMB0_T u0 i j s Q) : ∃ e rg' σ', TripN Try.prog 3 (loopNo Try.f60 0) (rgtM i) (hptM u0 s) e rg' σ' ∧ Q e rg' σ' :=
  Or.elim h.2.2.2.2.2.2 (fun (c0 : (tkOk s 1 = true)) => ⟨_, _, _, tMB0_1 u0 i j s ((h.2.2.2.2.1 c0).1) (c0) (h.2.2.2.1) (h.2.2.1) (h.2.1) (h.1), (h.2.2.2.2.1 c0).2⟩) (fun (c1 : (tkOk s 1 = false)) => ⟨_, _, _, tMB0_2 u0 i j s (c1) (h.2.2.2.1) (h.2.2.1) (h.2.1) (h.1), (h.2.2.2.2.2.1 c1)⟩)


theorem tMS0_1 (u0 : List AVal) (i : Int) (j : Nat) (s : ByteArray)
    (h1 : decide (j + 1 ≤ 11) = true)
    (h2 : decide (0 ≤ tkV s ∧ tkV s ≤ (↑(ByteArray.size (tkR s)) : Int) ∧ (↑(ByteArray.size (tkR s)) : Int) ≤ (↑(ByteArray.size (tkR s)) : Int)) = true)
    (h3 : decide (0 ≤ (↑0 : Int) ∧ (↑0 : Int) ≤ tkV s ∧ tkV s ≤ (↑(ByteArray.size (tkR s)) : Int)) = true)
    (h4 : decide (tkV s ≤ (↑(ByteArray.size (tkR s)) : Int)) = true)
    (h5 : tkOk s 262144 = true)
    (h6 : asType Try.prog 20 [List.getD (List.getD (flM 2) (Int.toNat i) []) 0 AVal.any] = AVal.iface 104 (AVal.ptr 2 11 0 j))
    (h7 : decide (Int.toNat i < 11) = true)
    (h8 : decide (0 ≤ i ∧ i < (↑11 : Int)) = true)
    (h9 : decide (i < 11) = true) :
    TripN Try.prog 3 (loopNo Try.f60 0) (rgtM i) (hptM u0 s) (AExit.normal) (mkR 117 [(0, AVal.ptr 0 1 0 0), (15, AVal.slc false 1 1 0 11 none), (16, iI 11), (17, iI (IntKind.wrap IntKind.i64 (i + 1)))]) ([AObj.rows true 1 [[AVal.str (ByteArray.extract (tkR s) (Int.toNat (tkV s)) (Int.toNat (↑(ByteArray.size (tkR s)) : Int)))]], AObj.rows false 1 (flM 2), AObj.rows true 11 [setCells u0 j [AVal.str (ByteArray.extract (tkR s) 0 (Int.toNat (tkV s)))]]]) :=
  evalT (st := St.mk (rgtM i) (hptM u0 s) ([Dec.br true, Dec.rwl (AVal.iface 104 (AVal.ptr 2 11 0 j)), Dec.use [0] [AVal.ptr 0 1 0 0, iI 262144] [AObj.rows true 1 [[AVal.str s]]] (iI (tkV s)) [AObj.rows true 1 [[AVal.str (tkR s)]]], Dec.use [] [AVal.bool (decide (tkV s ≤ (↑(ByteArray.size (tkR s)) : Int)))] [] (AVal.tuple []) []]) []) (st' := St.mk (mkR 117 [(0, AVal.ptr 0 1 0 0), (5, AVal.iface 104 (AVal.ptr 2 11 0 j)), (9, AVal.ptr 2 11 0 j), (10, iI (tkV s)), (15, AVal.slc false 1 1 0 11 none), (16, iI 11), (17, iI (IntKind.wrap IntKind.i64 (i + 1))), (18, AVal.tt true), (19, AVal.ptr 1 1 (Int.toNat i) 0), (20, AVal.iface 104 (AVal.ptr 2 11 0 j)), (21, AVal.iface 104 (AVal.ptr 2 11 0 j)), (22, AVal.tuple [AVal.nilp, AVal.tt false]), (23, AVal.tt false), (24, AVal.nilp), (29, AVal.tuple [AVal.nilp, AVal.tt false]), (30, AVal.tt false), (31, AVal.nilp), (36, AVal.tuple [AVal.nilp, AVal.tt false]), (37, AVal.tt false), (38, AVal.nilp), (44, AVal.tuple [AVal.ptr 2 11 0 j, AVal.tt true]), (45, AVal.tt true), (46, AVal.ptr 2 11 0 j), (47, AVal.ptr 0 1 0 0), (48, iI (tkV s)), (49, iI (tkV s)), (50, AVal.ptr 0 1 0 0), (51, AVal.ptr 0 1 0 0), (52, AVal.str (tkR s)), (53, iI (↑(ByteArray.size (tkR s)) : Int)), (54, AVal.bool (decide (tkV s ≤ (↑(ByteArray.size (tkR s)) : Int)))), (55, AVal.tuple []), (56, AVal.ptr 2 11 0 j), (57, AVal.ptr 0 1 0 0), (58, AVal.ptr 0 1 0 0), (59, AVal.ptr 0 1 0 0), (60, AVal.str (tkR s)), (61, iI (tkV s)), (62, AVal.str (ByteArray.extract (tkR s) 0 (Int.toNat (tkV s)))), (63, AVal.ptr 0 1 0 0), (64, AVal.ptr 0 1 0 0), (65, AVal.str (tkR s)), (66, iI (tkV s)), (67, AVal.str (ByteArray.extract (tkR s) (Int.toNat (tkV s)) (Int.toNat (↑(ByteArray.size (tkR s)) : Int)))), (68, AVal.ptr 2 11 0 j), (69, AVal.ptr 0 1 0 0), (116, iI (IntKind.wrap IntKind.i64 (i + 1)))]) ([AObj.rows true 1 [[AVal.str (ByteArray.extract (tkR s) (Int.toNat (tkV s)) (Int.toNat (↑(ByteArray.size (tkR s)) : Int)))]], AObj.rows false 1 (flM 2), AObj.rows true 11 [setCells u0 j [AVal.str (ByteArray.extract (tkR s) 0 (Int.toNat (tkV s)))]]]) ([]) (tr 12 ++ ((decide (j + 1 ≤ 11) = true) :: (tr 4 ++ ((decide (0 ≤ tkV s ∧ tkV s ≤ (↑(ByteArray.size (tkR s)) : Int) ∧ (↑(ByteArray.size (tkR s)) : Int) ≤ (↑(ByteArray.size (tkR s)) : Int)) = true) :: (tr 20 ++ ((decide (0 ≤ (↑0 : Int) ∧ (↑0 : Int) ≤ tkV s ∧ tkV s ≤ (↑(ByteArray.size (tkR s)) : Int)) = true) :: (tr 18 ++ ((Owed.use (owed Try.prog 3) 58 [] [AVal.bool (decide (tkV s ≤ (↑(ByteArray.size (tkR s)) : Int)))] [AObj.rows true 1 [[AVal.str (tkR s)]], AObj.rows false 1 (flM 2), AObj.rows true 11 [u0]] [AVal.bool (decide (tkV s ≤ (↑(ByteArray.size (tkR s)) : Int)))] [] (AVal.tuple []) []) :: (tr 3 ++ ((Owed.use (owed Try.prog 3) 66 [0] [AVal.ptr 0 1 0 0, iI 262144] [AObj.rows true 1 [[AVal.str s]], AObj.rows false 1 (flM 2), AObj.rows true 11 [u0]] [AVal.ptr 0 1 0 0, iI 262144] [AObj.rows true 1 [[AVal.str s]]] (iI (tkV s)) [AObj.rows true 1 [[AVal.str (tkR s)]]]) :: ((asType Try.prog 20 [List.getD (List.getD (flM 2) (Int.toNat i) []) 0 AVal.any] = AVal.iface 104 (AVal.ptr 2 11 0 j)) :: ((decide (Int.toNat i < 11) = true) :: (tr 1 ++ ((decide (0 ≤ i ∧ i < (↑11 : Int)) = true) :: ((decide (i < 11) = true) :: [])))))))))))))))) followed (by kernel_rfl) (allP_of (trC 12 ⟨h1, (trC 4 ⟨h2, (trC 20 ⟨h3, (trC 18 ⟨⟨(@Go.L12.right_ok (decide (tkV s ≤ (↑(ByteArray.size (tkR s)) : Int))) h4), rfl, rfl, rfl⟩, (trC 3 ⟨⟨(@Go.L12.taken_ok (s) (262144) h5), rfl, rfl, rfl⟩, ⟨h6, ⟨h7, (trC 1 ⟨h8, ⟨h9, trivial⟩⟩)⟩⟩⟩)⟩)⟩)⟩)⟩)) (keepM 117 [0, 15, 16, 17]) ([0, 1, 2]) (by kernel_rfl) (by kernel_rfl) (by kernel_rfl)

theorem tMS0_2 (u0 : List AVal) (i : Int) (j : Nat) (s : ByteArray)
    (h1 : decide (tkV s ≤ (↑(ByteArray.size (tkR s)) : Int)) = false)
    (h2 : tkOk s 262144 = true)
    (h3 : asType Try.prog 20 [List.getD (List.getD (flM 2) (Int.toNat i) []) 0 AVal.any] = AVal.iface 104 (AVal.ptr 2 11 0 j))
    (h4 : decide (Int.toNat i < 11) = true)
    (h5 : decide (0 ≤ i ∧ i < (↑11 : Int)) = true)
    (h6 : decide (i < 11) = true) :
    TripN Try.prog 3 (loopNo Try.f60 0) (rgtM i) (hptM u0 s) (AExit.pan 117) (mkR 117 [(0, AVal.ptr 0 1 0 0), (15, AVal.slc false 1 1 0 11 none), (16, iI 11), (17, iI i)]) ([AObj.rows true 1 [[AVal.str (tkR s)]], AObj.rows false 1 (flM 2), AObj.rows true 11 [u0]]) :=
  evalT (st := St.mk (rgtM i) (hptM u0 s) ([Dec.br true, Dec.rwl (AVal.iface 104 (AVal.ptr 2 11 0 j)), Dec.use [0] [AVal.ptr 0 1 0 0, iI 262144] [AObj.rows true 1 [[AVal.str s]]] (iI (tkV s)) [AObj.rows true 1 [[AVal.str (tkR s)]]], Dec.use [] [AVal.bool (decide (tkV s ≤ (↑(ByteArray.size (tkR s)) : Int)))] [] (AVal.pan 117) []]) []) (st' := St.mk (mkR 117 [(0, AVal.ptr 0 1 0 0), (5, AVal.iface 104 (AVal.ptr 2 11 0 j)), (9, AVal.ptr 2 11 0 j), (10, iI (tkV s)), (15, AVal.slc false 1 1 0 11 none), (16, iI 11), (17, iI i), (18, AVal.tt true), (19, AVal.ptr 1 1 (Int.toNat i) 0), (20, AVal.iface 104 (AVal.ptr 2 11 0 j)), (21, AVal.iface 104 (AVal.ptr 2 11 0 j)), (22, AVal.tuple [AVal.nilp, AVal.tt false]), (23, AVal.tt false), (24, AVal.nilp), (29, AVal.tuple [AVal.nilp, AVal.tt false]), (30, AVal.tt false), (31, AVal.nilp), (36, AVal.tuple [AVal.nilp, AVal.tt false]), (37, AVal.tt false), (38, AVal.nilp), (44, AVal.tuple [AVal.ptr 2 11 0 j, AVal.tt true]), (45, AVal.tt true), (46, AVal.ptr 2 11 0 j), (47, AVal.ptr 0 1 0 0), (48, iI (tkV s)), (49, iI (tkV s)), (50, AVal.ptr 0 1 0 0), (51, AVal.ptr 0 1 0 0), (52, AVal.str (tkR s)), (53, iI (↑(ByteArray.size (tkR s)) : Int)), (54, AVal.bool (decide (tkV s ≤ (↑(ByteArray.size (tkR s)) : Int))))]) ([AObj.rows true 1 [[AVal.str (tkR s)]], AObj.rows false 1 (flM 2), AObj.rows true 11 [u0]]) ([]) ((Owed.use (owed Try.prog 3) 58 [] [AVal.bool (decide (tkV s ≤ (↑(ByteArray.size (tkR s)) : Int)))] [AObj.rows true 1 [[AVal.str (tkR s)]], AObj.rows false 1 (flM 2), AObj.rows true 11 [u0]] [AVal.bool (decide (tkV s ≤ (↑(ByteArray.size (tkR s)) : Int)))] [] (AVal.pan 117) []) :: (tr 3 ++ ((Owed.use (owed Try.prog 3) 66 [0] [AVal.ptr 0 1 0 0, iI 262144] [AObj.rows true 1 [[AVal.str s]], AObj.rows false 1 (flM 2), AObj.rows true 11 [u0]] [AVal.ptr 0 1 0 0, iI 262144] [AObj.rows true 1 [[AVal.str s]]] (iI (tkV s)) [AObj.rows true 1 [[AVal.str (tkR s)]]]) :: ((asType Try.prog 20 [List.getD (List.getD (flM 2) (Int.toNat i) []) 0 AVal.any] = AVal.iface 104 (AVal.ptr 2 11 0 j)) :: ((decide (Int.toNat i < 11) = true) :: (tr 1 ++ ((decide (0 ≤ i ∧ i < (↑11 : Int)) = true) :: ((decide (i < 11) = true) :: []))))))))) followed (by kernel_rfl) (allP_of ⟨⟨(@Go.L12.right_no (decide (tkV s ≤ (↑(ByteArray.size (tkR s)) : Int))) h1), rfl, rfl, rfl⟩, (trC 3 ⟨⟨(@Go.L12.taken_ok (s) (262144) h2), rfl, rfl, rfl⟩, ⟨h3, ⟨h4, (trC 1 ⟨h5, ⟨h6, trivial⟩⟩)⟩⟩⟩)⟩) (keepM 117 [0, 15, 16, 17]) ([0, 1, 2]) (by kernel_rfl) (by kernel_rfl) (by kernel_rfl)

theorem tMS0_3 (u0 : List AVal) (i : Int) (j : Nat) (s : ByteArray)
    (h1 : tkOk s 262144 = false)
    (h2 : asType Try.prog 20 [List.getD (List.getD (flM 2) (Int.toNat i) []) 0 AVal.any] = AVal.iface 104 (AVal.ptr 2 11 0 j))
    (h3 : decide (Int.toNat i < 11) = true)
    (h4 : decide (0 ≤ i ∧ i < (↑11 : Int)) = true)
    (h5 : decide (i < 11) = true) :
    TripN Try.prog 3 (loopNo Try.f60 0) (rgtM i) (hptM u0 s) (AExit.pan 117) (mkR 117 [(0, AVal.ptr 0 1 0 0), (15, AVal.slc false 1 1 0 11 none), (16, iI 11), (17, iI i)]) ([AObj.dead, AObj.rows false 1 (flM 2), AObj.rows true 11 [u0]]) :=
  evalT (st := St.mk (rgtM i) (hptM u0 s) ([Dec.br true, Dec.rwl (AVal.iface 104 (AVal.ptr 2 11 0 j)), Dec.use [0] [AVal.ptr 0 1 0 0, iI 262144] [AObj.rows true 1 [[AVal.str s]]] (AVal.pan 117) [AObj.dead]]) []) (st' := St.mk (mkR 117 [(0, AVal.ptr 0 1 0 0), (5, AVal.iface 104 (AVal.ptr 2 11 0 j)), (9, AVal.ptr 2 11 0 j), (15, AVal.slc false 1 1 0 11 none), (16, iI 11), (17, iI i), (18, AVal.tt true), (19, AVal.ptr 1 1 (Int.toNat i) 0), (20, AVal.iface 104 (AVal.ptr 2 11 0 j)), (21, AVal.iface 104 (AVal.ptr 2 11 0 j)), (22, AVal.tuple [AVal.nilp, AVal.tt false]), (23, AVal.tt false), (24, AVal.nilp), (29, AVal.tuple [AVal.nilp, AVal.tt false]), (30, AVal.tt false), (31, AVal.nilp), (36, AVal.tuple [AVal.nilp, AVal.tt false]), (37, AVal.tt false), (38, AVal.nilp), (44, AVal.tuple [AVal.ptr 2 11 0 j, AVal.tt true]), (45, AVal.tt true), (46, AVal.ptr 2 11 0 j), (47, AVal.ptr 0 1 0 0)]) ([AObj.dead, AObj.rows false 1 (flM 2), AObj.rows true 11 [u0]]) ([]) ((Owed.use (owed Try.prog 3) 66 [0] [AVal.ptr 0 1 0 0, iI 262144] [AObj.rows true 1 [[AVal.str s]], AObj.rows false 1 (flM 2), AObj.rows true 11 [u0]] [AVal.ptr 0 1 0 0, iI 262144] [AObj.rows true 1 [[AVal.str s]]] (AVal.pan 117) [AObj.dead]) :: ((asType Try.prog 20 [List.getD (List.getD (flM 2) (Int.toNat i) []) 0 AVal.any] = AVal.iface 104 (AVal.ptr 2 11 0 j)) :: ((decide (Int.toNat i < 11) = true) :: (tr 1 ++ ((decide (0 ≤ i ∧ i < (↑11 : Int)) = true) :: ((decide (i < 11) = true) :: []))))))) followed (by kernel_rfl) (allP_of ⟨⟨(@Go.L12.taken_no (s) (262144) h1), rfl, rfl, rfl⟩, ⟨h2, ⟨h3, (trC 1 ⟨h4, ⟨h5, trivial⟩⟩)⟩⟩⟩) (keepM 117 [0, 15, 16, 17]) ([0, 1, 2]) (by kernel_rfl) (by kernel_rfl) (by kernel_rfl)

def tMS0_T (u0 : List AVal) (i : Int) (j : Nat) (s : ByteArray) (Q : AExit → Regs → AState → Prop) : Prop := (decide (i < 11) = true) ∧ (decide (0 ≤ i ∧ i < (↑11 : Int)) = true) ∧ (decide (Int.toNat i < 11) = true) ∧ (asType Try.prog 20 [List.getD (List.getD (flM 2) (Int.toNat i) []) 0 AVal.any] = AVal.iface 104 (AVal.ptr 2 11 0 j)) ∧ ((((tkOk s 262144 = true)) → ((((decide (tkV s ≤ (↑(ByteArray.size (tkR s)) : Int)) = true)) → (decide (0 ≤ (↑0 : Int) ∧ (↑0 : Int) ≤ tkV s ∧ tkV s ≤ (↑(ByteArray.size (tkR s)) : Int)) = true) ∧ (decide (0 ≤ tkV s ∧ tkV s ≤ (↑(ByteArray.size (tkR s)) : Int) ∧ (↑(ByteArray.size (tkR s)) : Int) ≤ (↑(ByteArray.size (tkR s)) : Int)) = true) ∧ (decide (j + 1 ≤ 11) = true) ∧ Q (AExit.normal) (mkR 117 [(0, AVal.ptr 0 1 0 0), (15, AVal.slc false 1 1 0 11 none), (16, iI 11), (17, iI (IntKind.wrap IntKind.i64 (i + 1)))]) ([AObj.rows true 1 [[AVal.str (ByteArray.extract (tkR s) (Int.toNat (tkV s)) (Int.toNat (↑(ByteArray.size (tkR s)) : Int)))]], AObj.rows false 1 (flM 2), AObj.rows true 11 [setCells u0 j [AVal.str (ByteArray.extract (tkR s) 0 (Int.toNat (tkV s)))]]])) ∧ (((decide (tkV s ≤ (↑(ByteArray.size (tkR s)) : Int)) = false)) → Q (AExit.pan 117) (mkR 117 [(0, AVal.ptr 0 1 0 0), (15, AVal.slc false 1 1 0 11 none), (16, iI 11), (17, iI i)]) ([AObj.rows true 1 [[AVal.str (tkR s)]], AObj.rows false 1 (flM 2), AObj.rows true 11 [u0]])) ∧ (((decide (tkV s ≤ (↑(ByteArray.size (tkR s)) : Int)) = true)) ∨ ((decide (tkV s ≤ (↑(ByteArray.size (tkR s)) : Int)) = false))))) ∧ (((tkOk s 262144 = false)) → Q (AExit.pan 117) (mkR 117 [(0, AVal.ptr 0 1 0 0), (15, AVal.slc false 1 1 0 11 none), (16, iI 11), (17, iI i)]) ([AObj.dead, AObj.rows false 1 (flM 2), AObj.rows true 11 [u0]])) ∧ (((tkOk s 262144 = true)) ∨ ((tkOk s 262144 = false))))
theorem tMS0_wp (u0 : List AVal) (i : Int) (j : Nat) (s : ByteArray) {Q : AExit → Regs → AState → Prop} (h : tMS0_T u0 i j s Q) : ∃ e rg' σ', TripN Try.prog 3 (loopNo Try.f60 0) (rgtM i) (hptM u0 s) e rg' σ' ∧ Q e rg' σ' :=
  Or.elim h.2.2.2.2.2.2 (fun (c0 : (tkOk s 262144 = true)) => Or.elim (h.2.2.2.2.1 c0).2.2 (fun (c1 : (decide (tkV s ≤ (↑(ByteArray.size (tkR s)) : Int)) = true)) => ⟨_, _, _, tMS0_1 u0 i j s (((h.2.2.2.2.1 c0).1 c1).2.2.1) (((h.2.2.2.2.1 c0).1 c1).2.1) (((h.2.2.2.2.1 c0).1 c1).1) (c1) (c0) (h.2.2.2.1) (h.2.2.1) (h.2.1) (h.1), ((h.2.2.2.2.1 c0).1 c1).2.2.2⟩) (fun (c2 : (decide (tkV s ≤ (↑(ByteArray.size (tkR s)) : Int)) = false)) => ⟨_, _, _, tMS0_2 u0 i j s (c2) (c0) (h.2.2.2.1) (h.2.2.1) (h.2.1) (h.1), ((h.2.2.2.2.1 c0).2.1 c2)⟩)) (fun (c3 : (tkOk s 262144 = false)) => ⟨_, _, _, tMS0_3 u0 i j s (c3) (h.2.2.2.1) (h.2.2.1) (h.2.1) (h.1), (h.2.2.2.2.2.1 c3)⟩)


theorem tMX_1 (u0 : List AVal) (i : Int) (s : ByteArray)
    (h1 : decide (i < 11) = false) :
    TripN Try.prog 3 (loopNo Try.f60 0) (rgtM i) (hptM u0 s) (AExit.exit 0) (mkR 117 [(0, AVal.ptr 0 1 0 0), (15, AVal.slc false 1 1 0 11 none), (16, iI 11), (17, iI i)]) ([AObj.rows true 1 [[AVal.str s]], AObj.rows false 1 (flM 2), AObj.rows true 11 [u0]]) :=
  evalT (st := St.mk (rgtM i) (hptM u0 s) ([Dec.br false]) []) (st' := St.mk (mkR 117 [(0, AVal.ptr 0 1 0 0), (15, AVal.slc false 1 1 0 11 none), (16, iI 11), (17, iI i), (18, AVal.tt false)]) ([AObj.rows true 1 [[AVal.str s]], AObj.rows false 1 (flM 2), AObj.rows true 11 [u0]]) ([]) ((decide (i < 11) = false) :: [])) followed (by kernel_rfl) (allP_of ⟨h1, trivial⟩) (keepM 117 [0, 15, 16, 17]) ([0, 1, 2]) (by kernel_rfl) (by kernel_rfl) (by kernel_rfl)

def tMX_T (u0 : List AVal) (i : Int) (s : ByteArray) (Q : AExit → Regs → AState → Prop) : Prop := (decide (i < 11) = false) ∧ Q (AExit.exit 0) (mkR 117 [(0, AVal.ptr 0 1 0 0), (15, AVal.slc false 1 1 0 11 none), (16, iI 11), (17, iI i)]) ([AObj.rows true 1 [[AVal.str s]], AObj.rows false 1 (flM 2), AObj.rows true 11 [u0]])
theorem tMX_wp (u0 : List AVal) (i : Int) (s : ByteArray) {Q : AExit → Regs → AState → Prop} (h : tMX_T u0 i s Q) : ∃ e rg' σ', TripN Try.prog 3 (loopNo Try.f60 0) (rgtM i) (hptM u0 s) e rg' σ' ∧ Q e rg' σ' :=
  ⟨_, _, _, tMX_1 u0 i s (h.1), h.2⟩


end Go.L12
end

section
set_option linter.unusedVariables false
set_option maxRecDepth 100000
namespace Go.L12
open Go Go.Abs Go.Proofs
def rgtMr (i len q : Int) : Regs := mkR 117 [(0, .ptr 0 1 0 0), (11, .ptr 2 11 0 7), (15, .slc false 1 1 0 11 none), (16, .int .i64 11), (17, .int .i64 i), (74, .int .i64 len), (75, .int .i64 q)]
abbrev hinM (m0 m1 m2 m3 m4 m5 m6 m8 : Int) (m9 : Bool) (m10 : ByteArray) (b : Bool) (kk : Nat) (rs : List (List AVal)) (s : ByteArray) : AState := [.rows true 1 [[.str s]], .rows false 1 (flM 2), .rows false 11 [rM m0 m1 m2 m3 m4 m5 m6 (.slc b 3 2 0 kk none) m8 m9 m10], .rows true 2 rs]
theorem tMr_1 (m0 m1 m2 m3 m4 m5 m6 m8 : Int) (m9 : Bool) (m10 : ByteArray) (b : Bool) (kk : Nat) (rs : List (List AVal)) (i len q : Int) (s : ByteArray)
    (h1 : decide (List.length rs = kk) = true)
    (h2 : decide ((kk + 1) * 24 ≤ 140737488355328 ∧ kk + 1 ≤ 9223372036854775807) = true)
    (h3 : Option.isSome (takeR 111 s) = true)
    (h4 : decide (q < len) = true) :
    TripN Try.prog 3 (loopNo Try.f60 1) (rgtMr i len q) (hinM m0 m1 m2 m3 m4 m5 m6 m8 m9 m10 b kk rs s) (AExit.normal) (mkR 117 [(0, AVal.ptr 0 1 0 0), (11, AVal.ptr 2 11 0 7), (15, AVal.slc false 1 1 0 11 none), (16, iI 11), (17, iI i), (74, iI len), (75, iI (IntKind.wrap IntKind.i64 (q + 1)))]) ([AObj.rows true 1 [[AVal.str (Prod.snd (Option.getD (takeR 111 s) ([], ByteArray.mk #[])))]], AObj.rows false 1 (flM 2), AObj.rows false 11 [(rM m0 m1 m2 m3 m4 m5 m6 (AVal.slc (b && false) 3 2 0 (kk + 1) none) m8 m9 m10)], AObj.rows true 2 (rs ++ [[iI (AVal.toInt (List.getD (Prod.fst (Option.getD (takeR 111 s) ([], ByteArray.mk #[]))) 0 AVal.any)), AVal.str (AVal.toStr (List.getD (Prod.fst (Option.getD (takeR 111 s) ([], ByteArray.mk #[]))) 1 AVal.any))]])]) :=
  evalT (st := St.mk (rgtMr i len q) (hinM m0 m1 m2 m3 m4 m5 m6 m8 m9 m10 b kk rs s) ([Dec.br true, Dec.use [0, 5, 4] [AVal.ptr 0 1 0 0, AVal.slc false 1 1 0 2 (some 2)] [AObj.rows true 1 [[AVal.str s]], AObj.rows false 1 [[AVal.iface 100 (AVal.ptr 2 2 0 0)], [AVal.iface 104 (AVal.ptr 2 2 0 1)]], AObj.rows true 2 [[iI 0, AVal.str (ByteArray.mk #[])]]] (AVal.tuple []) [AObj.rows true 1 [[AVal.str (Prod.snd (Option.getD (takeR 111 s) ([], ByteArray.mk #[])))]], AObj.rows false 1 [[AVal.iface 100 (AVal.ptr 2 2 0 0)], [AVal.iface 104 (AVal.ptr 2 2 0 1)]], AObj.rows true 2 [[iI (AVal.toInt (List.getD (Prod.fst (Option.getD (takeR 111 s) ([], ByteArray.mk #[]))) 0 AVal.any)), AVal.str (AVal.toStr (List.getD (Prod.fst (Option.getD (takeR 111 s) ([], ByteArray.mk #[]))) 1 AVal.any))]]]]) []) (st' := St.mk (mkR 117 [(0, AVal.ptr 0 1 0 0), (11, AVal.ptr 2 11 0 7), (12, AVal.ptr 4 2 0 0), (15, AVal.slc false 1 1 0 11 none), (16, iI 11), (17, iI i), (74, iI len), (75, iI (IntKind.wrap IntKind.i64 (q + 1))), (76, AVal.tt true), (77, AVal.ptr 0 1 0 0), (78, AVal.ptr 4 2 0 0), (79, AVal.iface 100 (AVal.ptr 4 2 0 0)), (80, AVal.ptr 4 2 0 1), (81, AVal.iface 104 (AVal.ptr 4 2 0 1)), (82, AVal.slc false 5 1 0 2 (some 2)), (83, AVal.tuple []), (84, AVal.ptr 2 11 0 7), (85, AVal.ptr 2 11 0 7), (86, AVal.ptr 2 11 0 7), (87, AVal.slc b 3 2 0 kk none), (88, AVal.agg [iI (AVal.toInt (List.getD (Prod.fst (Option.getD (takeR 111 s) ([], ByteArray.mk #[]))) 0 AVal.any)), AVal.str (AVal.toStr (List.getD (Prod.fst (Option.getD (takeR 111 s) ([], ByteArray.mk #[]))) 1 AVal.any))]), (89, AVal.slc false 6 2 0 1 (some 1)), (90, AVal.slc (b && false) 7 2 0 (kk + 1) none), (91, AVal.ptr 2 11 0 7), (92, iI (IntKind.wrap IntKind.i64 (q + 1)))]) ([AObj.rows true 1 [[AVal.str (Prod.snd (Option.getD (takeR 111 s) ([], ByteArray.mk #[])))]], AObj.rows false 1 (flM 2), AObj.rows false 11 [(rM m0 m1 m2 m3 m4 m5 m6 (AVal.slc (b && false) 7 2 0 (kk + 1) none) m8 m9 m10)], AObj.dead, AObj.rows true 2 [[iI (AVal.toInt (List.getD (Prod.fst (Option.getD (takeR 111 s) ([], ByteArray.mk #[]))) 0 AVal.any)), AVal.str (AVal.toStr (List.getD (Prod.fst (Option.getD (takeR 111 s) ([], ByteArray.mk #[]))) 1 AVal.any))]], AObj.rows false 1 [[AVal.iface 100 (AVal.ptr 4 2 0 0)], [AVal.iface 104 (AVal.ptr 4 2 0 1)]], AObj.rows true 2 [[iI (AVal.toInt (List.getD (Prod.fst (Option.getD (takeR 111 s) ([], ByteArray.mk #[]))) 0 AVal.any)), AVal.str (AVal.toStr (List.getD (Prod.fst (Option.getD (takeR 111 s) ([], ByteArray.mk #[]))) 1 AVal.any))]], AObj.rows true 2 (rs ++ [[iI (AVal.toInt (List.getD (Prod.fst (Option.getD (takeR 111 s) ([], ByteArray.mk #[]))) 0 AVal.any)), AVal.str (AVal.toStr (List.getD (Prod.fst (Option.getD (takeR 111 s) ([], ByteArray.mk #[]))) 1 AVal.any))]])]) ([]) (tr 9 ++ ((decide (List.length rs = kk) = true) :: ((decide ((kk + 1) * 24 ≤ 140737488355328 ∧ kk + 1 ≤ 9223372036854775807) = true) :: (tr 25 ++ ((Owed.use (owed Try.prog 3) 60 [0, 5, 4] [AVal.ptr 0 1 0 0, AVal.slc false 5 1 0 2 (some 2)] [AObj.rows true 1 [[AVal.str s]], AObj.rows false 1 (flM 2), AObj.rows false 11 [(rM m0 m1 m2 m3 m4 m5 m6 (AVal.slc b 3 2 0 kk none) m8 m9 m10)], AObj.rows true 2 rs, AObj.rows true 2 [[iI 0, AVal.str (ByteArray.mk #[])]], AObj.rows false 1 [[AVal.iface 100 (AVal.ptr 4 2 0 0)], [AVal.iface 104 (AVal.ptr 4 2 0 1)]]] [AVal.ptr 0 1 0 0, AVal.slc false 1 1 0 2 (some 2)] [AObj.rows true 1 [[AVal.str s]], AObj.rows false 1 [[AVal.iface 100 (AVal.ptr 2 2 0 0)], [AVal.iface 104 (AVal.ptr 2 2 0 1)]], AObj.rows true 2 [[iI 0, AVal.str (ByteArray.mk #[])]]] (AVal.tuple []) [AObj.rows true 1 [[AVal.str (Prod.snd (Option.getD (takeR 111 s) ([], ByteArray.mk #[])))]], AObj.rows false 1 [[AVal.iface 100 (AVal.ptr 2 2 0 0)], [AVal.iface 104 (AVal.ptr 2 2 0 1)]], AObj.rows true 2 [[iI (AVal.toInt (List.getD (Prod.fst (Option.getD (takeR 111 s) ([], ByteArray.mk #[]))) 0 AVal.any)), AVal.str (AVal.toStr (List.getD (Prod.fst (Option.getD (takeR 111 s) ([], ByteArray.mk #[]))) 1 AVal.any))]]]) :: ((decide (q < len) = true) :: []))))))) followed (by kernel_rfl) (allP_of (trC 9 ⟨h1, ⟨h2, (trC 25 ⟨⟨(@Go.L12.takesE_ok (s) h3), rfl, rfl, rfl⟩, ⟨h4, trivial⟩⟩)⟩⟩)) (keepM 117 [0, 11, 15, 16, 17, 74, 75]) ([0, 1, 2, 7]) (by kernel_rfl) (by kernel_rfl) (by kernel_rfl)

theorem tMr_2 (m0 m1 m2 m3 m4 m5 m6 m8 : Int) (m9 : Bool) (m10 : ByteArray) (b : Bool) (kk : Nat) (rs : List (List AVal)) (i len q : Int) (s : ByteArray)
    (h1 : Option.isSome (takeR 111 s) = false)
    (h2 : decide (q < len) = true) :
    TripN Try.prog 3 (loopNo Try.f60 1) (rgtMr i len q) (hinM m0 m1 m2 m3 m4 m5 m6 m8 m9 m10 b kk rs s) (AExit.pan 117) (mkR 117 [(0, AVal.ptr 0 1 0 0), (11, AVal.ptr 2 11 0 7), (15, AVal.slc false 1 1 0 11 none), (16, iI 11), (17, iI i), (74, iI len), (75, iI q)]) ([AObj.dead, AObj.rows false 1 (flM 2), AObj.rows false 11 [(rM m0 m1 m2 m3 m4 m5 m6 (AVal.slc b 3 2 0 kk none) m8 m9 m10)], AObj.rows true 2 rs]) :=
  evalT (st := St.mk (rgtMr i len q) (hinM m0 m1 m2 m3 m4 m5 m6 m8 m9 m10 b kk rs s) ([Dec.br true, Dec.use [0, 5, 4] [AVal.ptr 0 1 0 0, AVal.slc false 1 1 0 2 (some 2)] [AObj.rows true 1 [[AVal.str s]], AObj.rows false 1 [[AVal.iface 100 (AVal.ptr 2 2 0 0)], [AVal.iface 104 (AVal.ptr 2 2 0 1)]], AObj.rows true 2 [[iI 0, AVal.str (ByteArray.mk #[])]]] (AVal.pan 117) [AObj.dead, AObj.dead, AObj.dead]]) []) (st' := St.mk (mkR 117 [(0, AVal.ptr 0 1 0 0), (11, AVal.ptr 2 11 0 7), (12, AVal.ptr 4 2 0 0), (15, AVal.slc false 1 1 0 11 none), (16, iI 11), (17, iI i), (74, iI len), (75, iI q), (76, AVal.tt true), (77, AVal.ptr 0 1 0 0), (78, AVal.ptr 4 2 0 0), (79, AVal.iface 100 (AVal.ptr 4 2 0 0)), (80, AVal.ptr 4 2 0 1), (81, AVal.iface 104 (AVal.ptr 4 2 0 1)), (82, AVal.slc false 5 1 0 2 (some 2))]) ([AObj.dead, AObj.rows false 1 (flM 2), AObj.rows false 11 [(rM m0 m1 m2 m3 m4 m5 m6 (AVal.slc b 3 2 0 kk none) m8 m9 m10)], AObj.rows true 2 rs, AObj.dead, AObj.dead]) ([]) ((Owed.use (owed Try.prog 3) 60 [0, 5, 4] [AVal.ptr 0 1 0 0, AVal.slc false 5 1 0 2 (some 2)] [AObj.rows true 1 [[AVal.str s]], AObj.rows false 1 (flM 2), AObj.rows false 11 [(rM m0 m1 m2 m3 m4 m5 m6 (AVal.slc b 3 2 0 kk none) m8 m9 m10)], AObj.rows true 2 rs, AObj.rows true 2 [[iI 0, AVal.str (ByteArray.mk #[])]], AObj.rows false 1 [[AVal.iface 100 (AVal.ptr 4 2 0 0)], [AVal.iface 104 (AVal.ptr 4 2 0 1)]]] [AVal.ptr 0 1 0 0, AVal.slc false 1 1 0 2 (some 2)] [AObj.rows true 1 [[AVal.str s]], AObj.rows false 1 [[AVal.iface 100 (AVal.ptr 2 2 0 0)], [AVal.iface 104 (AVal.ptr 2 2 0 1)]], AObj.rows true 2 [[iI 0, AVal.str (ByteArray.mk #[])]]] (AVal.pan 117) [AObj.dead, AObj.dead, AObj.dead]) :: ((decide (q < len) = true) :: []))) followed (by kernel_rfl) (allP_of ⟨⟨(@Go.L12.takesE_no (s) h1), rfl, rfl, rfl⟩, ⟨h2, trivial⟩⟩) (keepM 117 [0, 11, 15, 16, 17, 74, 75]) ([0, 1, 2, 3]) (by kernel_rfl) (by kernel_rfl) (by kernel_rfl)

def tMr_T (m0 m1 m2 m3 m4 m5 m6 m8 : Int) (m9 : Bool) (m10 : ByteArray) (b : Bool) (kk : Nat) (rs : List (List AVal)) (i len q : Int) (s : ByteArray) (Q : AExit → Regs → AState → Prop) : Prop := (decide (q < len) = true) ∧ ((((Option.isSome (takeR 111 s) = true)) → (decide ((kk + 1) * 24 ≤ 140737488355328 ∧ kk + 1 ≤ 9223372036854775807) = true) ∧ (decide (List.length rs = kk) = true) ∧ Q (AExit.normal) (mkR 117 [(0, AVal.ptr 0 1 0 0), (11, AVal.ptr 2 11 0 7), (15, AVal.slc false 1 1 0 11 none), (16, iI 11), (17, iI i), (74, iI len), (75, iI (IntKind.wrap IntKind.i64 (q + 1)))]) ([AObj.rows true 1 [[AVal.str (Prod.snd (Option.getD (takeR 111 s) ([], ByteArray.mk #[])))]], AObj.rows false 1 (flM 2), AObj.rows false 11 [(rM m0 m1 m2 m3 m4 m5 m6 (AVal.slc (b && false) 3 2 0 (kk + 1) none) m8 m9 m10)], AObj.rows true 2 (rs ++ [[iI (AVal.toInt (List.getD (Prod.fst (Option.getD (takeR 111 s) ([], ByteArray.mk #[]))) 0 AVal.any)), AVal.str (AVal.toStr (List.getD (Prod.fst (Option.getD (takeR 111 s) ([], ByteArray.mk #[]))) 1 AVal.any))]])])) ∧ (((Option.isSome (takeR 111 s) = false)) → Q (AExit.pan 117) (mkR 117 [(0, AVal.ptr 0 1 0 0), (11, AVal.ptr 2 11 0 7), (15, AVal.slc false 1 1 0 11 none), (16, iI 11), (17, iI i), (74, iI len), (75, iI q)]) ([AObj.dead, AObj.rows false 1 (flM 2), AObj.rows false 11 [(rM m0 m1 m2 m3 m4 m5 m6 (AVal.slc b 3 2 0 kk none) m8 m9 m10)], AObj.rows true 2 rs])) ∧ (((Option.isSome (takeR 111 s) = true)) ∨ ((Option.isSome (takeR 111 s) = false))))
theorem tMr_wp (m0 m1 m2 m3 m4 m5 m6 m8 : Int) (m9 : Bool) (m10 : ByteArray) (b : Bool) (kk : Nat) (rs : List (List AVal)) (i len q : Int) (s : ByteArray) {Q : AExit → Regs → AState → Prop} (h : tMr_T m0 m1 m2 m3 m4 m5 m6 m8 m9 m10 b kk rs i len q s Q) : ∃ e rg' σ', TripN Try.prog 3 (loopNo Try.f60 1) (rgtMr i len q) (hinM m0 m1 m2 m3 m4 m5 m6 m8 m9 m10 b kk rs s) e rg' σ' ∧ Q e rg' σ' :=
  Or.elim h.2.2.2 (fun (c0 : (Option.isSome (takeR 111 s) = true)) => ⟨_, _, _, tMr_1 m0 m1 m2 m3 m4 m5 m6 m8 m9 m10 b kk rs i len q s ((h.2.1 c0).2.1) ((h.2.1 c0).1) (c0) (h.1), (h.2.1 c0).2.2⟩) (fun (c1 : (Option.isSome (takeR 111 s) = false)) => ⟨_, _, _, tMr_2 m0 m1 m2 m3 m4 m5 m6 m8 m9 m10 b kk rs i len q s (c1) (h.1), (h.2.2.1 c1)⟩)


theorem tMx_1 (m0 m1 m2 m3 m4 m5 m6 m8 : Int) (m9 : Bool) (m10 : ByteArray) (b : Bool) (kk : Nat) (rs : List (List AVal)) (i len q : Int) (s : ByteArray)
    (h1 : decide (q < len) = false) :
    TripN Try.prog 3 (loopNo Try.f60 1) (rgtMr i len q) (hinM m0 m1 m2 m3 m4 m5 m6 m8 m9 m10 b kk rs s) (AExit.exit 3) (mkR 117 [(0, AVal.ptr 0 1 0 0), (11, AVal.ptr 2 11 0 7), (15, AVal.slc false 1 1 0 11 none), (16, iI 11), (17, iI i), (74, iI len), (75, iI q)]) ([AObj.rows true 1 [[AVal.str s]], AObj.rows false 1 (flM 2), AObj.rows false 11 [(rM m0 m1 m2 m3 m4 m5 m6 (AVal.slc b 3 2 0 kk none) m8 m9 m10)], AObj.rows true 2 rs]) :=
  evalT (st := St.mk (rgtMr i len q) (hinM m0 m1 m2 m3 m4 m5 m6 m8 m9 m10 b kk rs s) ([Dec.br false]) []) (st' := St.mk (mkR 117 [(0, AVal.ptr 0 1 0 0), (11, AVal.ptr 2 11 0 7), (15, AVal.slc false 1 1 0 11 none), (16, iI 11), (17, iI i), (74, iI len), (75, iI q), (76, AVal.tt false)]) ([AObj.rows true 1 [[AVal.str s]], AObj.rows false 1 (flM 2), AObj.rows false 11 [(rM m0 m1 m2 m3 m4 m5 m6 (AVal.slc b 3 2 0 kk none) m8 m9 m10)], AObj.rows true 2 rs]) ([]) ((decide (q < len) = false) :: [])) followed (by kernel_rfl) (allP_of ⟨h1, trivial⟩) (keepM 117 [0, 11, 15, 16, 17, 74, 75]) ([0, 1, 2, 3]) (by kernel_rfl) (by kernel_rfl) (by kernel_rfl)

def tMx_T (m0 m1 m2 m3 m4 m5 m6 m8 : Int) (m9 : Bool) (m10 : ByteArray) (b : Bool) (kk : Nat) (rs : List (List AVal)) (i len q : Int) (s : ByteArray) (Q : AExit → Regs → AState → Prop) : Prop := (decide (q < len) = false) ∧ Q (AExit.exit 3) (mkR 117 [(0, AVal.ptr 0 1 0 0), (11, AVal.ptr 2 11 0 7), (15, AVal.slc false 1 1 0 11 none), (16, iI 11), (17, iI i), (74, iI len), (75, iI q)]) ([AObj.rows true 1 [[AVal.str s]], AObj.rows false 1 (flM 2), AObj.rows false 11 [(rM m0 m1 m2 m3 m4 m5 m6 (AVal.slc b 3 2 0 kk none) m8 m9 m10)], AObj.rows true 2 rs])
theorem tMx_wp (m0 m1 m2 m3 m4 m5 m6 m8 : Int) (m9 : Bool) (m10 : ByteArray) (b : Bool) (kk : Nat) (rs : List (List AVal)) (i len q : Int) (s : ByteArray) {Q : AExit → Regs → AState → Prop} (h : tMx_T m0 m1 m2 m3 m4 m5 m6 m8 m9 m10 b kk rs i len q s Q) : ∃ e rg' σ', TripN Try.prog 3 (loopNo Try.f60 1) (rgtMr i len q) (hinM m0 m1 m2 m3 m4 m5 m6 m8 m9 m10 b kk rs s) e rg' σ' ∧ Q e rg' σ' :=
  ⟨_, _, _, tMx_1 m0 m1 m2 m3 m4 m5 m6 m8 m9 m10 b kk rs i len q s (h.1), h.2⟩


end Go.L12
end

section
set_option linter.unusedVariables false
set_option linter.unusedSimpArgs false
set_option maxRecDepth 100000
namespace Go.L12
open Go Go.Abs Go.Proofs
theorem takeR_rowE {s : ByteArray} {y : List AVal × ByteArray} (h : takeR 111 s = some y) : y.1 = [.int .i64 (List.getD y.1 0 .any).toInt, .str (List.getD y.1 1 .any).toStr] := by
  rw [takeR_E] at h
  cases h1 : tI 1099511627776 s with
  | none => rw [h1] at h; cases h
  | some x =>
    rw [h1] at h
    simp only [Option.map_some] at h
    cases h2 : tS x.2 with
    | none => rw [h2] at h; cases h
    | some z => rw [h2] at h; cases h; rfl

theorem tM_out (m0 m1 m2 m3 m4 m5 m6 m8 : Int) (m9 : Bool) (m10 : ByteArray) (i : Int) (n : Nat) (s : ByteArray) {e : AExit} {rg' : Regs} {σ' : AState}
    (h : TripN Try.prog 3 (.loop (loopNo Try.f60 1)) (rgtMr i (n : Nat) 0) (hinM m0 m1 m2 m3 m4 m5 m6 m8 m9 m10 true 0 [] s) e rg' σ') :
    TripN Try.prog 3 (.loop (loopNo Try.f60 1)) (rgtMr i (n : Nat) 0) (hptM (rM m0 m1 m2 m3 m4 m5 m6 (.fsl true 0 [] (some 0)) m8 m9 m10) s) e rg' σ' := by
  refine TripN.preObj 2 (.rows false 11 [(rM m0 m1 m2 m3 m4 m5 m6 (.fsl true 0 [] (some 0)) m8 m9 m10)]) ?_ (by simp) rfl (fun F w ρ b h => ORel.lead h)
  refine TripN.ext (S := [.rows true 1 [[.str s]], .rows false 1 (flM 2), .rows false 11 [(rM m0 m1 m2 m3 m4 m5 m6 (.fsl true 0 [] (some 0)) m8 m9 m10)], .rows true 2 []]) ?_ rfl
  refine TripN.weakCell (id := 2) (es' := 11) (rs := [(rM m0 m1 m2 m3 m4 m5 m6 (.fsl true 0 [] (some 0)) m8 m9 m10)]) (i := 0) (j := 7) (v' := (.slc true 3 2 0 0 none)) ?_ rfl (Imp.nilSlc _ _ _ _ _)
  exact h
theorem tM_list (m0 m1 m2 m3 m4 m5 m6 m8 : Int) (m9 : Bool) (m10 : ByteArray) (i : Int) (n : Nat) (hn : n ≤ 64) (s : ByteArray) :
    (∀ x, seqG (tkG 111) n 0 [] s = some x → TripN Try.prog 3 (.loop (loopNo Try.f60 1)) (rgtMr i (n : Nat) 0) (hptM (rM m0 m1 m2 m3 m4 m5 m6 (.fsl true 0 [] (some 0)) m8 m9 m10) s) (.exit 3) (rgtMr i (n : Nat) (n : Nat)) (hptM (rM m0 m1 m2 m3 m4 m5 m6 (listV x.1) m8 m9 m10) x.2)) ∧
    (seqG (tkG 111) n 0 [] s = none → TripN Try.prog 3 (.loop (loopNo Try.f60 1)) (rgtMr i (n : Nat) 0) (hptM (rM m0 m1 m2 m3 m4 m5 m6 (.fsl true 0 [] (some 0)) m8 m9 m10) s) (.pan 117) (mkR 117 []) (List.replicate 3 .dead)) := by
  have key := takes_runG (fun rg => rg.length = 117) (P := Try.prog) (N := 3) (c := loopNo Try.f60 1) n (fun q => rgtMr i (n : Nat) (q : Nat)) (fun (u : List (List AVal)) s => hinM m0 m1 m2 m3 m4 m5 m6 m8 m9 m10 u.isEmpty u.length u s) (tkG 111) (fun q u => u.length = q) 3
    (fun u s _ => TripN.wp (tMx_wp m0 m1 m2 m3 m4 m5 m6 m8 m9 m10 u.isEmpty u.length u i (n : Nat) (n : Nat) s ⟨decide_eq_false (by omega), rfl, rfl, rfl⟩))
    (fun q hq u s hI => by
      have w1 : IntKind.wrap .i64 ((q : Int) + 1) = ((q + 1 : Nat) : Int) := by rw [wrapS (by omega) (by omega)]; omega
      have eg : tkG 111 q u s = (takeR 111 s).map fun y => (u ++ [y.1], y.2) := rfl
      cases ho : takeR 111 s with
      | some y =>
        refine ⟨fun x hx => ?_, fun h => (by rw [eg, ho] at h; cases h)⟩
        rw [eg, ho] at hx
        cases hx
        refine ⟨by simp [hI], TripN.wp (tMr_wp m0 m1 m2 m3 m4 m5 m6 m8 m9 m10 u.isEmpty u.length u i (n : Nat) (q : Nat) s ?_)⟩
        unfold tMr_T
        rw [w1, ho]
        simp only [Option.getD_some, Option.isSome_some]
        refine ⟨decide_eq_true (by omega), fun _ => ⟨decide_eq_true (by omega), (by first | exact decide_eq_true rfl | simp), by trivial, by first | rfl | trivial, ?_⟩, fun c => absurd c (by simp), .inl (by trivial)⟩
        rw [← takeR_rowE ho, Bool.and_false, List.length_append, show (u ++ [y.1]).isEmpty = false by cases u <;> rfl]
        rfl
      | none =>
        refine ⟨fun x hx => (by rw [eg, ho] at hx; cases hx), fun _ => TripN.wpG (tMr_wp m0 m1 m2 m3 m4 m5 m6 m8 m9 m10 u.isEmpty u.length u i (n : Nat) (q : Nat) s ?_)⟩
        unfold tMr_T
        rw [w1, ho]
        simp only [Option.isSome_none]
        exact ⟨decide_eq_true (by omega), fun c => absurd c (by simp), fun _ => ⟨by trivial, by kernel_rfl⟩, .inr (by trivial)⟩)
    n 0 (by omega) [] s rfl
  refine ⟨fun x hx => ?_, fun h => ?_⟩
  · have h1 := TripN.freezeCell (key.1 x hx).trip (id := 2) (id2 := 3) (j := 7) (es := 11) (es2 := 2) (off := 0) (len := x.1.length) (nl := x.1.isEmpty) (p := true) (cap := none) (row := (rM m0 m1 m2 m3 m4 m5 m6 (.slc x.1.isEmpty 3 2 0 x.1.length none) m8 m9 m10)) (rs := x.1) rfl rfl rfl (by decide) rfl (by omega) (fun q v hv hne => by
      match q, hv, hne with
      | 0, hv, hne => cases hv; rfl
      | 1, hv, hne => cases hv; rfl
      | 2, hv, hne => cases hv; rfl
      | 3, hv, hne => cases hv; rfl
      | 4, hv, hne => cases hv; rfl
      | 5, hv, hne => cases hv; rfl
      | 6, hv, hne => cases hv; rfl
      | 7, hv, hne => exact absurd rfl hne
      | 8, hv, hne => cases hv; rfl
      | 9, hv, hne => cases hv; rfl
      | 10, hv, hne => cases hv; rfl
      | q + 11, hv, hne => exact absurd hv (by simp))
    rw [List.drop_zero, List.take_length] at h1
    exact tM_out m0 m1 m2 m3 m4 m5 m6 m8 m9 m10 i n s (h1.post (List.replicate 117 true) (List.range 3) (by kernel_rfl) rfl (by kernel_rfl))
  · obtain ⟨rg', σ', hg, r⟩ := key.2 h
    have q := TripN.panAll (tM_out m0 m1 m2 m3 m4 m5 m6 m8 m9 m10 i n s r.trip)
    rw [hg] at q
    exact q
end Go.L12
end

section
set_option linter.unusedVariables false
set_option maxRecDepth 100000
namespace Go.L12
open Go Go.Abs Go.Proofs
theorem tMN_1 (m0 m1 m2 m3 m4 m5 m6 m8 : Int) (m9 : Bool) (m10 : ByteArray) (v : AVal) (s s2 : ByteArray)
    (h1 : TripN Try.prog 3 (Code.loop (loopNo Try.f60 1)) (mkR 117 [(0, AVal.ptr 0 1 0 0), (11, AVal.ptr 2 11 0 7), (15, AVal.slc false 1 1 0 11 none), (16, iI 11), (17, iI 9), (74, iI (tkV s)), (75, iI 0)]) [AObj.rows true 1 [[AVal.str (tkR s)]], AObj.rows false 1 (flM 2), AObj.rows true 11 [(rM m0 m1 m2 m3 m4 m5 m6 (AVal.fsl true 0 [] (some 0)) m8 m9 m10)]] (AExit.exit 3) (mkR 117 [(0, AVal.ptr 0 1 0 0), (11, AVal.ptr 2 11 0 7), (15, AVal.slc false 1 1 0 11 none), (16, iI 11), (17, iI 9), (74, iI (tkV s)), (75, iI (tkV s))]) [AObj.rows true 1 [[AVal.str s2]], AObj.rows false 1 (flM 2), AObj.rows true 11 [(rM m0 m1 m2 m3 m4 m5 m6 (v) m8 m9 m10)]])
    (h2 : tkOk s 16 = true) :
    TripN Try.prog 3 (loopNo Try.f60 0) (rgtM 9) (hptM (rM m0 m1 m2 m3 m4 m5 m6 (AVal.fsl true 0 [] (some 0)) m8 m9 m10) s) (AExit.normal) (mkR 117 [(0, AVal.ptr 0 1 0 0), (15, AVal.slc false 1 1 0 11 none), (16, iI 11), (17, iI 10)]) ([AObj.rows true 1 [[AVal.str s2]], AObj.rows false 1 (flM 2), AObj.rows true 11 [(rM m0 m1 m2 m3 m4 m5 m6 (v) m8 m9 m10)]]) :=
  evalT (st := St.mk (rgtM 9) (hptM (rM m0 m1 m2 m3 m4 m5 m6 (AVal.fsl true 0 [] (some 0)) m8 m9 m10) s) ([Dec.br true, Dec.use [0] [AVal.ptr 0 1 0 0, iI 16] [AObj.rows true 1 [[AVal.str s]]] (iI (tkV s)) [AObj.rows true 1 [[AVal.str (tkR s)]]], Dec.compact (keepM 117 [0, 11, 15, 16, 17, 74, 75]) [0, 1, 2], Dec.loop (AExit.exit 3) (rgtMr 9 (tkV s) (tkV s)) (hptM (rM m0 m1 m2 m3 m4 m5 m6 v m8 m9 m10) s2)]) []) (st' := St.mk (mkR 117 [(0, AVal.ptr 0 1 0 0), (11, AVal.ptr 2 11 0 7), (15, AVal.slc false 1 1 0 11 none), (16, iI 11), (17, iI 10), (74, iI (tkV s)), (75, iI (tkV s)), (116, iI 10)]) ([AObj.rows true 1 [[AVal.str s2]], AObj.rows false 1 (flM 2), AObj.rows true 11 [(rM m0 m1 m2 m3 m4 m5 m6 (v) m8 m9 m10)]]) ([]) ((Owed.loop (owed Try.prog 3) (loopNo Try.f60 1) (mkR 117 [(0, AVal.ptr 0 1 0 0), (11, AVal.ptr 2 11 0 7), (15, AVal.slc false 1 1 0 11 none), (16, iI 11), (17, iI 9), (74, iI (tkV s)), (75, iI 0)]) [AObj.rows true 1 [[AVal.str (tkR s)]], AObj.rows false 1 (flM 2), AObj.rows true 11 [(rM m0 m1 m2 m3 m4 m5 m6 (AVal.fsl true 0 [] (some 0)) m8 m9 m10)]] (AExit.exit 3) (mkR 117 [(0, AVal.ptr 0 1 0 0), (11, AVal.ptr 2 11 0 7), (15, AVal.slc false 1 1 0 11 none), (16, iI 11), (17, iI 9), (74, iI (tkV s)), (75, iI (tkV s))]) [AObj.rows true 1 [[AVal.str s2]], AObj.rows false 1 (flM 2), AObj.rows true 11 [(rM m0 m1 m2 m3 m4 m5 m6 (v) m8 m9 m10)]]) :: ((Owed.use (owed Try.prog 3) 66 [0] [AVal.ptr 0 1 0 0, iI 16] [AObj.rows true 1 [[AVal.str s]], AObj.rows false 1 (flM 2), AObj.rows true 11 [(rM m0 m1 m2 m3 m4 m5 m6 (AVal.fsl true 0 [] (some 0)) m8 m9 m10)]] [AVal.ptr 0 1 0 0, iI 16] [AObj.rows true 1 [[AVal.str s]]] (iI (tkV s)) [AObj.rows true 1 [[AVal.str (tkR s)]]]) :: (tr 4 ++ [])))) followed (by kernel_rfl) (allP_of ⟨h1, ⟨⟨(@Go.L12.taken_ok (s) (16) h2), rfl, rfl, rfl⟩, (trC 4 trivial)⟩⟩) (keepM 117 [0, 15, 16, 17]) ([0, 1, 2]) (by kernel_rfl) (by kernel_rfl) (by kernel_rfl)

theorem tMN_2 (m0 m1 m2 m3 m4 m5 m6 m8 : Int) (m9 : Bool) (m10 : ByteArray) (v : AVal) (s s2 : ByteArray)
    (h1 : tkOk s 16 = false) :
    TripN Try.prog 3 (loopNo Try.f60 0) (rgtM 9) (hptM (rM m0 m1 m2 m3 m4 m5 m6 (AVal.fsl true 0 [] (some 0)) m8 m9 m10) s) (AExit.pan 117) (mkR 117 [(0, AVal.ptr 0 1 0 0), (15, AVal.slc false 1 1 0 11 none), (16, iI 11), (17, iI 9)]) ([AObj.dead, AObj.rows false 1 (flM 2), AObj.rows true 11 [(rM m0 m1 m2 m3 m4 m5 m6 (AVal.fsl true 0 [] (some 0)) m8 m9 m10)]]) :=
  evalT (st := St.mk (rgtM 9) (hptM (rM m0 m1 m2 m3 m4 m5 m6 (AVal.fsl true 0 [] (some 0)) m8 m9 m10) s) ([Dec.br true, Dec.use [0] [AVal.ptr 0 1 0 0, iI 16] [AObj.rows true 1 [[AVal.str s]]] (AVal.pan 117) [AObj.dead]]) []) (st' := St.mk (mkR 117 [(0, AVal.ptr 0 1 0 0), (5, AVal.iface 111 (AVal.ptr 2 11 0 7)), (11, AVal.ptr 2 11 0 7), (15, AVal.slc false 1 1 0 11 none), (16, iI 11), (17, iI 9), (18, AVal.tt true), (19, AVal.ptr 1 1 9 0), (20, AVal.iface 111 (AVal.ptr 2 11 0 7)), (21, AVal.iface 111 (AVal.ptr 2 11 0 7)), (22, AVal.tuple [AVal.nilp, AVal.tt false]), (23, AVal.tt false), (24, AVal.nilp), (29, AVal.tuple [AVal.nilp, AVal.tt false]), (30, AVal.tt false), (31, AVal.nilp), (36, AVal.tuple [AVal.nilp, AVal.tt false]), (37, AVal.tt false), (38, AVal.nilp), (44, AVal.tuple [AVal.nilp, AVal.tt false]), (45, AVal.tt false), (46, AVal.nilp), (70, AVal.tuple [AVal.ptr 2 11 0 7, AVal.tt true]), (71, AVal.tt true), (72, AVal.ptr 2 11 0 7), (73, AVal.ptr 0 1 0 0)]) ([AObj.dead, AObj.rows false 1 (flM 2), AObj.rows true 11 [(rM m0 m1 m2 m3 m4 m5 m6 (AVal.fsl true 0 [] (some 0)) m8 m9 m10)]]) ([]) ((Owed.use (owed Try.prog 3) 66 [0] [AVal.ptr 0 1 0 0, iI 16] [AObj.rows true 1 [[AVal.str s]], AObj.rows false 1 (flM 2), AObj.rows true 11 [(rM m0 m1 m2 m3 m4 m5 m6 (AVal.fsl true 0 [] (some 0)) m8 m9 m10)]] [AVal.ptr 0 1 0 0, iI 16] [AObj.rows true 1 [[AVal.str s]]] (AVal.pan 117) [AObj.dead]) :: (tr 4 ++ []))) followed (by kernel_rfl) (allP_of ⟨⟨(@Go.L12.taken_no (s) (16) h1), rfl, rfl, rfl⟩, (trC 4 trivial)⟩) (keepM 117 [0, 15, 16, 17]) ([0, 1, 2]) (by kernel_rfl) (by kernel_rfl) (by kernel_rfl)

def tMN_T (m0 m1 m2 m3 m4 m5 m6 m8 : Int) (m9 : Bool) (m10 : ByteArray) (v : AVal) (s s2 : ByteArray) (Q : AExit → Regs → AState → Prop) : Prop := ((((tkOk s 16 = true)) → (TripN Try.prog 3 (Code.loop (loopNo Try.f60 1)) (mkR 117 [(0, AVal.ptr 0 1 0 0), (11, AVal.ptr 2 11 0 7), (15, AVal.slc false 1 1 0 11 none), (16, iI 11), (17, iI 9), (74, iI (tkV s)), (75, iI 0)]) [AObj.rows true 1 [[AVal.str (tkR s)]], AObj.rows false 1 (flM 2), AObj.rows true 11 [(rM m0 m1 m2 m3 m4 m5 m6 (AVal.fsl true 0 [] (some 0)) m8 m9 m10)]] (AExit.exit 3) (mkR 117 [(0, AVal.ptr 0 1 0 0), (11, AVal.ptr 2 11 0 7), (15, AVal.slc false 1 1 0 11 none), (16, iI 11), (17, iI 9), (74, iI (tkV s)), (75, iI (tkV s))]) [AObj.rows true 1 [[AVal.str s2]], AObj.rows false 1 (flM 2), AObj.rows true 11 [(rM m0 m1 m2 m3 m4 m5 m6 (v) m8 m9 m10)]]) ∧ Q (AExit.normal) (mkR 117 [(0, AVal.ptr 0 1 0 0), (15, AVal.slc false 1 1 0 11 none), (16, iI 11), (17, iI 10)]) ([AObj.rows true 1 [[AVal.str s2]], AObj.rows false 1 (flM 2), AObj.rows true 11 [(rM m0 m1 m2 m3 m4 m5 m6 (v) m8 m9 m10)]])) ∧ (((tkOk s 16 = false)) → Q (AExit.pan 117) (mkR 117 [(0, AVal.ptr 0 1 0 0), (15, AVal.slc false 1 1 0 11 none), (16, iI 11), (17, iI 9)]) ([AObj.dead, AObj.rows false 1 (flM 2), AObj.rows true 11 [(rM m0 m1 m2 m3 m4 m5 m6 (AVal.fsl true 0 [] (some 0)) m8 m9 m10)]])) ∧ (((tkOk s 16 = true)) ∨ ((tkOk s 16 = false))))
theorem tMN_wp (m0 m1 m2 m3 m4 m5 m6 m8 : Int) (m9 : Bool) (m10 : ByteArray) (v : AVal) (s s2 : ByteArray) {Q : AExit → Regs → AState → Prop} (h : tMN_T m0 m1 m2 m3 m4 m5 m6 m8 m9 m10 v s s2 Q) : ∃ e rg' σ', TripN Try.prog 3 (loopNo Try.f60 0) (rgtM 9) (hptM (rM m0 m1 m2 m3 m4 m5 m6 (AVal.fsl true 0 [] (some 0)) m8 m9 m10) s) e rg' σ' ∧ Q e rg' σ' :=
  Or.elim h.2.2 (fun (c0 : (tkOk s 16 = true)) => ⟨_, _, _, tMN_1 m0 m1 m2 m3 m4 m5 m6 m8 m9 m10 v s s2 ((h.1 c0).1) (c0), (h.1 c0).2⟩) (fun (c1 : (tkOk s 16 = false)) => ⟨_, _, _, tMN_2 m0 m1 m2 m3 m4 m5 m6 m8 m9 m10 v s s2 (c1), (h.2.1 c1)⟩)


theorem tMNn_1 (m0 m1 m2 m3 m4 m5 m6 m8 : Int) (m9 : Bool) (m10 s : ByteArray)
    (h1 : TripN Try.prog 3 (Code.loop (loopNo Try.f60 1)) (mkR 117 [(0, AVal.ptr 0 1 0 0), (11, AVal.ptr 2 11 0 7), (15, AVal.slc false 1 1 0 11 none), (16, iI 11), (17, iI 9), (74, iI (tkV s)), (75, iI 0)]) [AObj.rows true 1 [[AVal.str (tkR s)]], AObj.rows false 1 (flM 2), AObj.rows true 11 [(rM m0 m1 m2 m3 m4 m5 m6 (AVal.fsl true 0 [] (some 0)) m8 m9 m10)]] (AExit.pan 117) (mkR 117 []) [AObj.dead, AObj.dead, AObj.dead])
    (h2 : tkOk s 16 = true) :
    TripN Try.prog 3 (loopNo Try.f60 0) (rgtM 9) (hptM (rM m0 m1 m2 m3 m4 m5 m6 (AVal.fsl true 0 [] (some 0)) m8 m9 m10) s) (AExit.pan 117) (mkR 117 []) ([AObj.dead, AObj.dead, AObj.dead]) :=
  evalT (st := St.mk (rgtM 9) (hptM (rM m0 m1 m2 m3 m4 m5 m6 (AVal.fsl true 0 [] (some 0)) m8 m9 m10) s) ([Dec.br true, Dec.use [0] [AVal.ptr 0 1 0 0, iI 16] [AObj.rows true 1 [[AVal.str s]]] (iI (tkV s)) [AObj.rows true 1 [[AVal.str (tkR s)]]], Dec.compact (keepM 117 [0, 11, 15, 16, 17, 74, 75]) [0, 1, 2], Dec.loop (AExit.pan 117) (mkR 117 []) (List.replicate 3 AObj.dead)]) []) (st' := St.mk (mkR 117 []) ([AObj.dead, AObj.dead, AObj.dead]) ([]) ((Owed.loop (owed Try.prog 3) (loopNo Try.f60 1) (mkR 117 [(0, AVal.ptr 0 1 0 0), (11, AVal.ptr 2 11 0 7), (15, AVal.slc false 1 1 0 11 none), (16, iI 11), (17, iI 9), (74, iI (tkV s)), (75, iI 0)]) [AObj.rows true 1 [[AVal.str (tkR s)]], AObj.rows false 1 (flM 2), AObj.rows true 11 [(rM m0 m1 m2 m3 m4 m5 m6 (AVal.fsl true 0 [] (some 0)) m8 m9 m10)]] (AExit.pan 117) (mkR 117 []) [AObj.dead, AObj.dead, AObj.dead]) :: ((Owed.use (owed Try.prog 3) 66 [0] [AVal.ptr 0 1 0 0, iI 16] [AObj.rows true 1 [[AVal.str s]], AObj.rows false 1 (flM 2), AObj.rows true 11 [(rM m0 m1 m2 m3 m4 m5 m6 (AVal.fsl true 0 [] (some 0)) m8 m9 m10)]] [AVal.ptr 0 1 0 0, iI 16] [AObj.rows true 1 [[AVal.str s]]] (iI (tkV s)) [AObj.rows true 1 [[AVal.str (tkR s)]]]) :: (tr 4 ++ [])))) followed (by kernel_rfl) (allP_of ⟨h1, ⟨⟨(@Go.L12.taken_ok (s) (16) h2), rfl, rfl, rfl⟩, (trC 4 trivial)⟩⟩) (keepM 117 [0, 15, 16, 17]) ([0, 1, 2]) (by kernel_rfl) (by kernel_rfl) (by kernel_rfl)

theorem tMNn_2 (m0 m1 m2 m3 m4 m5 m6 m8 : Int) (m9 : Bool) (m10 s : ByteArray)
    (h1 : tkOk s 16 = false) :
    TripN Try.prog 3 (loopNo Try.f60 0) (rgtM 9) (hptM (rM m0 m1 m2 m3 m4 m5 m6 (AVal.fsl true 0 [] (some 0)) m8 m9 m10) s) (AExit.pan 117) (mkR 117 [(0, AVal.ptr 0 1 0 0), (15, AVal.slc false 1 1 0 11 none), (16, iI 11), (17, iI 9)]) ([AObj.dead, AObj.rows false 1 (flM 2), AObj.rows true 11 [(rM m0 m1 m2 m3 m4 m5 m6 (AVal.fsl true 0 [] (some 0)) m8 m9 m10)]]) :=
  evalT (st := St.mk (rgtM 9) (hptM (rM m0 m1 m2 m3 m4 m5 m6 (AVal.fsl true 0 [] (some 0)) m8 m9 m10) s) ([Dec.br true, Dec.use [0] [AVal.ptr 0 1 0 0, iI 16] [AObj.rows true 1 [[AVal.str s]]] (AVal.pan 117) [AObj.dead]]) []) (st' := St.mk (mkR 117 [(0, AVal.ptr 0 1 0 0), (5, AVal.iface 111 (AVal.ptr 2 11 0 7)), (11, AVal.ptr 2 11 0 7), (15, AVal.slc false 1 1 0 11 none), (16, iI 11), (17, iI 9), (18, AVal.tt true), (19, AVal.ptr 1 1 9 0), (20, AVal.iface 111 (AVal.ptr 2 11 0 7)), (21, AVal.iface 111 (AVal.ptr 2 11 0 7)), (22, AVal.tuple [AVal.nilp, AVal.tt false]), (23, AVal.tt false), (24, AVal.nilp), (29, AVal.tuple [AVal.nilp, AVal.tt false]), (30, AVal.tt false), (31, AVal.nilp), (36, AVal.tuple [AVal.nilp, AVal.tt false]), (37, AVal.tt false), (38, AVal.nilp), (44, AVal.tuple [AVal.nilp, AVal.tt false]), (45, AVal.tt false), (46, AVal.nilp), (70, AVal.tuple [AVal.ptr 2 11 0 7, AVal.tt true]), (71, AVal.tt true), (72, AVal.ptr 2 11 0 7), (73, AVal.ptr 0 1 0 0)]) ([AObj.dead, AObj.rows false 1 (flM 2), AObj.rows true 11 [(rM m0 m1 m2 m3 m4 m5 m6 (AVal.fsl true 0 [] (some 0)) m8 m9 m10)]]) ([]) ((Owed.use (owed Try.prog 3) 66 [0] [AVal.ptr 0 1 0 0, iI 16] [AObj.rows true 1 [[AVal.str s]], AObj.rows false 1 (flM 2), AObj.rows true 11 [(rM m0 m1 m2 m3 m4 m5 m6 (AVal.fsl true 0 [] (some 0)) m8 m9 m10)]] [AVal.ptr 0 1 0 0, iI 16] [AObj.rows true 1 [[AVal.str s]]] (AVal.pan 117) [AObj.dead]) :: (tr 4 ++ []))) followed (by kernel_rfl) (allP_of ⟨⟨(@Go.L12.taken_no (s) (16) h1), rfl, rfl, rfl⟩, (trC 4 trivial)⟩) (keepM 117 [0, 15, 16, 17]) ([0, 1, 2]) (by kernel_rfl) (by kernel_rfl) (by kernel_rfl)

def tMNn_T (m0 m1 m2 m3 m4 m5 m6 m8 : Int) (m9 : Bool) (m10 s : ByteArray) (Q : AExit → Regs → AState → Prop) : Prop := ((((tkOk s 16 = true)) → (TripN Try.prog 3 (Code.loop (loopNo Try.f60 1)) (mkR 117 [(0, AVal.ptr 0 1 0 0), (11, AVal.ptr 2 11 0 7), (15, AVal.slc false 1 1 0 11 none), (16, iI 11), (17, iI 9), (74, iI (tkV s)), (75, iI 0)]) [AObj.rows true 1 [[AVal.str (tkR s)]], AObj.rows false 1 (flM 2), AObj.rows true 11 [(rM m0 m1 m2 m3 m4 m5 m6 (AVal.fsl true 0 [] (some 0)) m8 m9 m10)]] (AExit.pan 117) (mkR 117 []) [AObj.dead, AObj.dead, AObj.dead]) ∧ Q (AExit.pan 117) (mkR 117 []) ([AObj.dead, AObj.dead, AObj.dead])) ∧ (((tkOk s 16 = false)) → Q (AExit.pan 117) (mkR 117 [(0, AVal.ptr 0 1 0 0), (15, AVal.slc false 1 1 0 11 none), (16, iI 11), (17, iI 9)]) ([AObj.dead, AObj.rows false 1 (flM 2), AObj.rows true 11 [(rM m0 m1 m2 m3 m4 m5 m6 (AVal.fsl true 0 [] (some 0)) m8 m9 m10)]])) ∧ (((tkOk s 16 = true)) ∨ ((tkOk s 16 = false))))
theorem tMNn_wp (m0 m1 m2 m3 m4 m5 m6 m8 : Int) (m9 : Bool) (m10 s : ByteArray) {Q : AExit → Regs → AState → Prop} (h : tMNn_T m0 m1 m2 m3 m4 m5 m6 m8 m9 m10 s Q) : ∃ e rg' σ', TripN Try.prog 3 (loopNo Try.f60 0) (rgtM 9) (hptM (rM m0 m1 m2 m3 m4 m5 m6 (AVal.fsl true 0 [] (some 0)) m8 m9 m10) s) e rg' σ' ∧ Q e rg' σ' :=
  Or.elim h.2.2 (fun (c0 : (tkOk s 16 = true)) => ⟨_, _, _, tMNn_1 m0 m1 m2 m3 m4 m5 m6 m8 m9 m10 s ((h.1 c0).1) (c0), (h.1 c0).2⟩) (fun (c1 : (tkOk s 16 = false)) => ⟨_, _, _, tMNn_2 m0 m1 m2 m3 m4 m5 m6 m8 m9 m10 s (c1), (h.2.1 c1)⟩)


end Go.L12
end

section
set_option linter.unusedVariables false
set_option linter.unusedSimpArgs false
set_option maxRecDepth 100000
namespace Go.L12
open Go Go.Abs Go.Proofs
theorem tMN_r (m0 m1 m2 m3 m4 m5 m6 m8 : Int) (m9 : Bool) (m10 s : ByteArray) :
    (∀ x, tL 111 s = some x → TripN Try.prog 3 (loopNo Try.f60 0) (rgtM 9) (hptM (rM m0 m1 m2 m3 m4 m5 m6 (.fsl true 0 [] (some 0)) m8 m9 m10) s) .normal (rgtM 10) (hptM (rM m0 m1 m2 m3 m4 m5 m6 (listV x.1) m8 m9 m10) x.2)) ∧
    (tL 111 s = none → ∃ rg' σ', TripN Try.prog 3 (loopNo Try.f60 0) (rgtM 9) (hptM (rM m0 m1 m2 m3 m4 m5 m6 (.fsl true 0 [] (some 0)) m8 m9 m10) s) (.pan 117) rg' σ') := by
  have emx : ((mx 111 : Nat) : Int) = 16 := rfl
  unfold tL tI
  rw [emx]
  cases ho : tkOk s 16 with
  | true =>
    rw [if_pos rfl]
    have hv := (of_decide_eq_true ho).2
    have hv : tkV s ≤ 16 := hv
    have h0 := tkV0 s
    have en : (((tkV s).toNat : Nat) : Int) = tkV s := Int.toNat_of_nonneg h0
    obtain ⟨k1, k2⟩ := tM_list m0 m1 m2 m3 m4 m5 m6 m8 m9 m10 9 (tkV s).toNat (by omega) (tkR s)
    rw [en] at k1 k2
    dsimp only
    refine ⟨fun x hx => ?_, fun hx => ?_⟩
    · refine TripN.wp (tMN_wp m0 m1 m2 m3 m4 m5 m6 m8 m9 m10 (listV x.1) s x.2 ?_)
      unfold tMN_T
      exact ⟨fun _ => ⟨k1 x hx, by trivial, by trivial, by trivial⟩, fun c => absurd c (by rw [ho]; simp), .inl ho⟩
    · refine TripN.wpE (tMNn_wp m0 m1 m2 m3 m4 m5 m6 m8 m9 m10 s ?_)
      unfold tMNn_T
      exact ⟨fun _ => ⟨k2 hx, by trivial⟩, fun c => absurd c (by rw [ho]; simp), .inl ho⟩
  | false =>
    rw [if_neg (by simp)]
    refine ⟨fun x hx => (by cases hx), fun hx => ?_⟩
    refine TripN.wpE (tMNn_wp m0 m1 m2 m3 m4 m5 m6 m8 m9 m10 s ?_)
    unfold tMNn_T
    exact ⟨fun c => absurd c (by rw [ho]; simp), fun _ => by trivial, .inr ho⟩
end Go.L12
end

section
set_option linter.unusedVariables false
set_option linter.unusedSimpArgs false
set_option maxRecDepth 100000
namespace Go.L12
open Go Go.Abs Go.Proofs

def FM : List (Nat × Nat × Nat) := [(100, 0, 0), (100, 0, 1), (100, 0, 2), (100, 0, 3), (100, 0, 4), (100, 0, 5), (100, 0, 6), (100, 0, 8), (101, 0, 9), (111, 0, 7), (104, 0, 10)]
abbrev flMt : List (List AVal) := (flM 2)
theorem tMI0_r (u0 : List AVal) (i j : Nat) (hi : i < 11) (hfl : asType Try.prog 20 [List.getD (List.getD flMt i []) 0 .any] = .iface 100 (.ptr 2 11 0 j)) (hj : j + 1 ≤ 11) (s : ByteArray) :
    (∀ x, takeF 100 s = some x → TripN Try.prog 3 (loopNo Try.f60 0) (rgtM (i : Nat)) (hptM u0 s) .normal (rgtM ((i + 1 : Nat) : Int)) (hptM (u0.set j x.1) x.2)) ∧ (takeF 100 s = none → ∃ rg' σ', TripN Try.prog 3 (loopNo Try.f60 0) (rgtM (i : Nat)) (hptM u0 s) (.pan 117) rg' σ') := by
  have w1 : IntKind.wrap .i64 ((i : Int) + 1) = ((i + 1 : Nat) : Int) := by rw [wrapS (by omega) (by omega)]; omega
  have h0 : 0 ≤ tkV s := Int.natCast_nonneg _
  have e : takeF 100 s = (tI 1099511627776 s).map fun x => (.int .i64 x.1, x.2) := rfl
  rw [e]
  unfold tI
  cases ho : tkOk s 1099511627776 with
  | true =>
    refine ⟨fun x hx => ?_, fun h => by cases h⟩
    cases hx
    refine TripN.wp (tMI0_wp u0 i j s ?_)
    unfold tMI0_T
    rw [Int.toNat_natCast, w1]
    exact ⟨decide_eq_true (by omega), decide_eq_true (by omega), decide_eq_true (by omega), hfl, fun _ => ⟨decide_eq_true (by omega), rfl, rfl, rfl⟩, fun c => absurd c (by rw [ho]; simp), .inl ho⟩
  | false =>
    refine ⟨fun x hx => (by cases hx), fun h => TripN.wpE (tMI0_wp u0 i j s ?_)⟩
    unfold tMI0_T
    rw [Int.toNat_natCast, w1]
    exact ⟨decide_eq_true (by omega), decide_eq_true (by omega), decide_eq_true (by omega), hfl, fun c => absurd c (by rw [ho]; simp), fun _ => rfl, .inr ho⟩

theorem tMB0_r (u0 : List AVal) (i j : Nat) (hi : i < 11) (hfl : asType Try.prog 20 [List.getD (List.getD flMt i []) 0 .any] = .iface 101 (.ptr 2 11 0 j)) (hj : j + 1 ≤ 11) (s : ByteArray) :
    (∀ x, takeF 101 s = some x → TripN Try.prog 3 (loopNo Try.f60 0) (rgtM (i : Nat)) (hptM u0 s) .normal (rgtM ((i + 1 : Nat) : Int)) (hptM (u0.set j x.1) x.2)) ∧ (takeF 101 s = none → ∃ rg' σ', TripN Try.prog 3 (loopNo Try.f60 0) (rgtM (i : Nat)) (hptM u0 s) (.pan 117) rg' σ') := by
  have w1 : IntKind.wrap .i64 ((i : Int) + 1) = ((i + 1 : Nat) : Int) := by rw [wrapS (by omega) (by omega)]; omega
  have h0 : 0 ≤ tkV s := Int.natCast_nonneg _
  have e : takeF 101 s = (tB s).map fun x => (.bool x.1, x.2) := rfl
  rw [e]
  unfold tB
  cases ho : tkOk s 1 with
  | true =>
    refine ⟨fun x hx => ?_, fun h => by cases h⟩
    cases hx
    refine TripN.wp (tMB0_wp u0 i j s ?_)
    unfold tMB0_T
    rw [Int.toNat_natCast, w1]
    exact ⟨decide_eq_true (by omega), decide_eq_true (by omega), decide_eq_true (by omega), hfl, fun _ => ⟨decide_eq_true (by omega), rfl, rfl, rfl⟩, fun c => absurd c (by rw [ho]; simp), .inl ho⟩
  | false =>
    refine ⟨fun x hx => (by cases hx), fun h => TripN.wpE (tMB0_wp u0 i j s ?_)⟩
    unfold tMB0_T
    rw [Int.toNat_natCast, w1]
    exact ⟨decide_eq_true (by omega), decide_eq_true (by omega), decide_eq_true (by omega), hfl, fun c => absurd c (by rw [ho]; simp), fun _ => rfl, .inr ho⟩

theorem tMS0_r (u0 : List AVal) (i j : Nat) (hi : i < 11) (hfl : asType Try.prog 20 [List.getD (List.getD flMt i []) 0 .any] = .iface 104 (.ptr 2 11 0 j)) (hj : j + 1 ≤ 11) (s : ByteArray) :
    (∀ x, takeF 104 s = some x → TripN Try.prog 3 (loopNo Try.f60 0) (rgtM (i : Nat)) (hptM u0 s) .normal (rgtM ((i + 1 : Nat) : Int)) (hptM (u0.set j x.1) x.2)) ∧ (takeF 104 s = none → ∃ rg' σ', TripN Try.prog 3 (loopNo Try.f60 0) (rgtM (i : Nat)) (hptM u0 s) (.pan 117) rg' σ') := by
  have w1 : IntKind.wrap .i64 ((i : Int) + 1) = ((i + 1 : Nat) : Int) := by rw [wrapS (by omega) (by omega)]; omega
  have h0 : 0 ≤ tkV s := Int.natCast_nonneg _
  have e : takeF 104 s = (tS s).map fun x => (.str x.1, x.2) := rfl
  rw [e]
  unfold tS
  cases ho : tkOk s 262144 with
  | true =>
    rw [if_pos rfl]
    by_cases hv : tkV s ≤ ((tkR s).size : Int)
    · rw [if_pos hv]
      refine ⟨fun x hx => ?_, fun h => by cases h⟩
      cases hx
      refine TripN.wp (tMS0_wp u0 i j s ?_)
      unfold tMS0_T
      rw [Int.toNat_natCast, Int.toNat_natCast, w1]
      exact ⟨decide_eq_true (by omega), decide_eq_true (by omega), decide_eq_true (by omega), hfl, fun _ => ⟨fun _ => ⟨decide_eq_true (by omega), decide_eq_true (by omega), decide_eq_true (by omega), rfl, rfl, rfl⟩, fun c => absurd (of_decide_eq_false c) (by omega), .inl (decide_eq_true hv)⟩, fun c => absurd c (by rw [ho]; simp), .inl ho⟩
    · rw [if_neg hv]
      refine ⟨fun x hx => (by cases hx), fun h => TripN.wpE (tMS0_wp u0 i j s ?_)⟩
      unfold tMS0_T
      rw [Int.toNat_natCast, Int.toNat_natCast, w1]
      exact ⟨decide_eq_true (by omega), decide_eq_true (by omega), decide_eq_true (by omega), hfl, fun _ => ⟨fun c => absurd (of_decide_eq_true c) (by omega), fun _ => rfl, .inr (decide_eq_false hv)⟩, fun c => absurd c (by rw [ho]; simp), .inl ho⟩
  | false =>
    refine ⟨fun x hx => (by cases hx), fun h => TripN.wpE (tMS0_wp u0 i j s ?_)⟩
    unfold tMS0_T
    rw [Int.toNat_natCast, Int.toNat_natCast, w1]
    exact ⟨decide_eq_true (by omega), decide_eq_true (by omega), decide_eq_true (by omega), hfl, fun c => absurd c (by rw [ho]; simp), fun _ => rfl, .inr ho⟩

def gtM (i : Nat) (u : List AVal) (s : ByteArray) : Option ((List AVal) × ByteArray) := (takeF (FM.getD i (0, 0, 0)).1 s).map fun x => (u.set (FM.getD i (0, 0, 0)).2.2 x.1, x.2)
def ivM (i : Nat) (u : List AVal) : Prop := ∃ (m0 m1 m2 m3 m4 m5 m6 : Int) (v : AVal) (m8 : Int) (m9 : Bool) (m10 : ByteArray), u = rM m0 m1 m2 m3 m4 m5 m6 v m8 m9 m10 ∧ (i ≤ 9 → v = .fsl true 0 [] (some 0))
theorem takeF_I {t : Nat} (ht : t = 100 ∨ t = 102) {s : ByteArray} {x : AVal × ByteArray} (h : takeF t s = some x) : ∃ n, x.1 = .int .i64 n := by
  have h : (tI 1099511627776 s).map (fun x => ((AVal.int .i64 x.1), x.2)) = some x := by rcases ht with rfl | rfl <;> exact h
  rw [Option.map_eq_some_iff] at h
  obtain ⟨y, _, rfl⟩ := h
  exact ⟨_, rfl⟩
theorem takeF_B {s : ByteArray} {x : AVal × ByteArray} (h : takeF 101 s = some x) : ∃ n, x.1 = .bool n := by
  have h : (tB s).map (fun x => ((AVal.bool x.1), x.2)) = some x := h
  rw [Option.map_eq_some_iff] at h
  obtain ⟨y, _, rfl⟩ := h
  exact ⟨_, rfl⟩
theorem takeF_S {s : ByteArray} {x : AVal × ByteArray} (h : takeF 104 s = some x) : ∃ n, x.1 = .str n := by
  have h : (tS s).map (fun x => ((AVal.str x.1), x.2)) = some x := h
  rw [Option.map_eq_some_iff] at h
  obtain ⟨y, _, rfl⟩ := h
  exact ⟨_, rfl⟩
theorem tM_round : ∀ i, i < 11 → ∀ (u : List AVal) (s : ByteArray), ivM i u → (∀ x, gtM i u s = some x → ivM (i + 1) x.1 ∧ TripN Try.prog 3 (loopNo Try.f60 0) (rgtM (i : Nat)) (hptM u s) .normal (rgtM ((i + 1 : Nat) : Int)) (hptM x.1 x.2)) ∧ (gtM i u s = none → ∃ rg' σ', TripN Try.prog 3 (loopNo Try.f60 0) (rgtM (i : Nat)) (hptM u s) (.pan 117) rg' σ')
  | 0, hi, u, s, hI => by
    obtain ⟨h1, h2⟩ := tMI0_r u 0 0 hi (by kernel_rfl) (by omega) s
    have e : gtM 0 u s = (takeF 100 s).map fun x => (u.set 0 x.1, x.2) := rfl
    rw [e]
    cases ht : takeF 100 s with
    | none => exact ⟨fun x hx => (by cases hx), fun _ => h2 ht⟩
    | some x =>
      refine ⟨fun y hy => ?_, fun h => by cases h⟩
      cases hy
      refine ⟨?_, h1 x ht⟩
      obtain ⟨m0, m1, m2, m3, m4, m5, m6, v, m8, m9, m10, rfl, hv⟩ := hI
      obtain ⟨z, hz⟩ := takeF_I (.inl rfl) ht
      refine ⟨z, m1, m2, m3, m4, m5, m6, v, m8, m9, m10, ?_, fun h => hv (by omega)⟩
      dsimp only
      rw [hz]; rfl
  | 1, hi, u, s, hI => by
    obtain ⟨h1, h2⟩ := tMI0_r u 1 1 hi (by kernel_rfl) (by omega) s
    have e : gtM 1 u s = (takeF 100 s).map fun x => (u.set 1 x.1, x.2) := rfl
    rw [e]
    cases ht : takeF 100 s with
    | none => exact ⟨fun x hx => (by cases hx), fun _ => h2 ht⟩
    | some x =>
      refine ⟨fun y hy => ?_, fun h => by cases h⟩
      cases hy
      refine ⟨?_, h1 x ht⟩
      obtain ⟨m0, m1, m2, m3, m4, m5, m6, v, m8, m9, m10, rfl, hv⟩ := hI
      obtain ⟨z, hz⟩ := takeF_I (.inl rfl) ht
      refine ⟨m0, z, m2, m3, m4, m5, m6, v, m8, m9, m10, ?_, fun h => hv (by omega)⟩
      dsimp only
      rw [hz]; rfl
  | 2, hi, u, s, hI => by
    obtain ⟨h1, h2⟩ := tMI0_r u 2 2 hi (by kernel_rfl) (by omega) s
    have e : gtM 2 u s = (takeF 100 s).map fun x => (u.set 2 x.1, x.2) := rfl
    rw [e]
    cases ht : takeF 100 s with
    | none => exact ⟨fun x hx => (by cases hx), fun _ => h2 ht⟩
    | some x =>
      refine ⟨fun y hy => ?_, fun h => by cases h⟩
      cases hy
      refine ⟨?_, h1 x ht⟩
      obtain ⟨m0, m1, m2, m3, m4, m5, m6, v, m8, m9, m10, rfl, hv⟩ := hI
      obtain ⟨z, hz⟩ := takeF_I (.inl rfl) ht
      refine ⟨m0, m1, z, m3, m4, m5, m6, v, m8, m9, m10, ?_, fun h => hv (by omega)⟩
      dsimp only
      rw [hz]; rfl
  | 3, hi, u, s, hI => by
    obtain ⟨h1, h2⟩ := tMI0_r u 3 3 hi (by kernel_rfl) (by omega) s
    have e : gtM 3 u s = (takeF 100 s).map fun x => (u.set 3 x.1, x.2) := rfl
    rw [e]
    cases ht : takeF 100 s with
    | none => exact ⟨fun x hx => (by cases hx), fun _ => h2 ht⟩
    | some x =>
      refine ⟨fun y hy => ?_, fun h => by cases h⟩
      cases hy
      refine ⟨?_, h1 x ht⟩
      obtain ⟨m0, m1, m2, m3, m4, m5, m6, v, m8, m9, m10, rfl, hv⟩ := hI
      obtain ⟨z, hz⟩ := takeF_I (.inl rfl) ht
      refine ⟨m0, m1, m2, z, m4, m5, m6, v, m8, m9, m10, ?_, fun h => hv (by omega)⟩
      dsimp only
      rw [hz]; rfl
  | 4, hi, u, s, hI => by
    obtain ⟨h1, h2⟩ := tMI0_r u 4 4 hi (by kernel_rfl) (by omega) s
    have e : gtM 4 u s = (takeF 100 s).map fun x => (u.set 4 x.1, x.2) := rfl
    rw [e]
    cases ht : takeF 100 s with
    | none => exact ⟨fun x hx => (by cases hx), fun _ => h2 ht⟩
    | some x =>
      refine ⟨fun y hy => ?_, fun h => by cases h⟩
      cases hy
      refine ⟨?_, h1 x ht⟩
      obtain ⟨m0, m1, m2, m3, m4, m5, m6, v, m8, m9, m10, rfl, hv⟩ := hI
      obtain ⟨z, hz⟩ := takeF_I (.inl rfl) ht
      refine ⟨m0, m1, m2, m3, z, m5, m6, v, m8, m9, m10, ?_, fun h => hv (by omega)⟩
      dsimp only
      rw [hz]; rfl
  | 5, hi, u, s, hI => by
    obtain ⟨h1, h2⟩ := tMI0_r u 5 5 hi (by kernel_rfl) (by omega) s
    have e : gtM 5 u s = (takeF 100 s).map fun x => (u.set 5 x.1, x.2) := rfl
    rw [e]
    cases ht : takeF 100 s with
    | none => exact ⟨fun x hx => (by cases hx), fun _ => h2 ht⟩
    | some x =>
      refine ⟨fun y hy => ?_, fun h => by cases h⟩
      cases hy
      refine ⟨?_, h1 x ht⟩
      obtain ⟨m0, m1, m2, m3, m4, m5, m6, v, m8, m9, m10, rfl, hv⟩ := hI
      obtain ⟨z, hz⟩ := takeF_I (.inl rfl) ht
      refine ⟨m0, m1, m2, m3, m4, z, m6, v, m8, m9, m10, ?_, fun h => hv (by omega)⟩
      dsimp only
      rw [hz]; rfl
  | 6, hi, u, s, hI => by
    obtain ⟨h1, h2⟩ := tMI0_r u 6 6 hi (by kernel_rfl) (by omega) s
    have e : gtM 6 u s = (takeF 100 s).map fun x => (u.set 6 x.1, x.2) := rfl
    rw [e]
    cases ht : takeF 100 s with
    | none => exact ⟨fun x hx => (by cases hx), fun _ => h2 ht⟩
    | some x =>
      refine ⟨fun y hy => ?_, fun h => by cases h⟩
      cases hy
      refine ⟨?_, h1 x ht⟩
      obtain ⟨m0, m1, m2, m3, m4, m5, m6, v, m8, m9, m10, rfl, hv⟩ := hI
      obtain ⟨z, hz⟩ := takeF_I (.inl rfl) ht
      refine ⟨m0, m1, m2, m3, m4, m5, z, v, m8, m9, m10, ?_, fun h => hv (by omega)⟩
      dsimp only
      rw [hz]; rfl
  | 7, hi, u, s, hI => by
    obtain ⟨h1, h2⟩ := tMI0_r u 7 8 hi (by kernel_rfl) (by omega) s
    have e : gtM 7 u s = (takeF 100 s).map fun x => (u.set 8 x.1, x.2) := rfl
    rw [e]
    cases ht : takeF 100 s with
    | none => exact ⟨fun x hx => (by cases hx), fun _ => h2 ht⟩
    | some x =>
      refine ⟨fun y hy => ?_, fun h => by cases h⟩
      cases hy
      refine ⟨?_, h1 x ht⟩
      obtain ⟨m0, m1, m2, m3, m4, m5, m6, v, m8, m9, m10, rfl, hv⟩ := hI
      obtain ⟨z, hz⟩ := takeF_I (.inl rfl) ht
      refine ⟨m0, m1, m2, m3, m4, m5, m6, v, z, m9, m10, ?_, fun h => hv (by omega)⟩
      dsimp only
      rw [hz]; rfl
  | 8, hi, u, s, hI => by
    obtain ⟨h1, h2⟩ := tMB0_r u 8 9 hi (by kernel_rfl) (by omega) s
    have e : gtM 8 u s = (takeF 101 s).map fun x => (u.set 9 x.1, x.2) := rfl
    rw [e]
    cases ht : takeF 101 s with
    | none => exact ⟨fun x hx => (by cases hx), fun _ => h2 ht⟩
    | some x =>
      refine ⟨fun y hy => ?_, fun h => by cases h⟩
      cases hy
      refine ⟨?_, h1 x ht⟩
      obtain ⟨m0, m1, m2, m3, m4, m5, m6, v, m8, m9, m10, rfl, hv⟩ := hI
      obtain ⟨z, hz⟩ := takeF_B ht
      refine ⟨m0, m1, m2, m3, m4, m5, m6, v, m8, z, m10, ?_, fun h => hv (by omega)⟩
      dsimp only
      rw [hz]; rfl
  | 9, hi, u, s, hI => by
    obtain ⟨m0, m1, m2, m3, m4, m5, m6, v, m8, m9, m10, rfl, hv⟩ := hI
    obtain rfl := hv (by omega)
    obtain ⟨h1, h2⟩ := tMN_r m0 m1 m2 m3 m4 m5 m6 m8 m9 m10 s
    have e : gtM 9 (rM m0 m1 m2 m3 m4 m5 m6 (.fsl true 0 [] (some 0)) m8 m9 m10) s = (tL 111 s).map fun x => (rM m0 m1 m2 m3 m4 m5 m6 (listV x.1) m8 m9 m10, x.2) := by
      show Option.map _ ((tL 111 s).map _) = _
      cases tL 111 s <;> rfl
    rw [e]
    cases ht : tL 111 s with
    | none => exact ⟨fun x hx => (by cases hx), fun _ => h2 ht⟩
    | some x => exact ⟨fun y hy => (by cases hy; exact ⟨⟨_, _, _, _, _, _, _, _, _, _, _, rfl, fun h => absurd h (by omega)⟩, h1 x ht⟩), fun h => by cases h⟩
  | 10, hi, u, s, hI => by
    obtain ⟨h1, h2⟩ := tMS0_r u 10 10 hi (by kernel_rfl) (by omega) s
    have e : gtM 10 u s = (takeF 104 s).map fun x => (u.set 10 x.1, x.2) := rfl
    rw [e]
    cases ht : takeF 104 s with
    | none => exact ⟨fun x hx => (by cases hx), fun _ => h2 ht⟩
    | some x =>
      refine ⟨fun y hy => ?_, fun h => by cases h⟩
      cases hy
      refine ⟨?_, h1 x ht⟩
      obtain ⟨m0, m1, m2, m3, m4, m5, m6, v, m8, m9, m10, rfl, hv⟩ := hI
      obtain ⟨z, hz⟩ := takeF_S ht
      refine ⟨m0, m1, m2, m3, m4, m5, m6, v, m8, m9, z, ?_, fun h => absurd h (by omega)⟩
      dsimp only
      rw [hz]; rfl
  | n + 11, hi, u, s, _ => absurd hi (by omega)
theorem takesM_ok (u : List AVal) (hI : ivM 0 u) (s : ByteArray) (x : (List AVal) × ByteArray) (hb : seqG gtM 11 0 u s = some x) :
    FOk Try.prog 60 [.ptr 0 1 0 0, .slc false 1 1 0 11 none] [.rows true 1 [[.str s]], .rows false 1 flMt, .rows true 11 [u]] (.tuple []) [.rows true 1 [[.str x.2]], .rows false 1 flMt, .rows true 11 [x.1]] := by
  have r := (takes_run (c := loopNo Try.f60 0) 11 (fun i => rgtM (i : Nat)) (fun (u : List AVal) s => hptM u s) gtM ivM 0 (fun u s _ => TripN.wp (tMX_wp u 11 s ⟨by kernel_rfl, rfl, rfl, rfl⟩)) tM_round 11 0 (by omega) u s hI).1 x hb
  exact (evalF_ok followed Try.func60 (by kernel_rfl) (show evalF Try.prog Try.f60 [.ptr 0 1 0 0, .slc false 1 1 0 11 none] [.rows true 1 [[.str s]], .rows false 1 flMt, .rows true 11 [u]] [Dec.compact (keepM 117 [0, 15, 16, 17]) [0, 1, 2], Dec.loop (.exit 0) (rgtM 11) (hptM x.1 x.2)] = .ok (FRes.mk (.tuple []) (hptM x.1 x.2) [(owed Try.prog 3).loop (loopNo Try.f60 0) (rgtM 0) (hptM u s) (.exit 0) (rgtM 11) (hptM x.1 x.2)]) by kernel_rfl) (allP_of ⟨r.trip, trivial⟩)).move [0, 1, 2] (by kernel_rfl) (by kernel_rfl) (by kernel_rfl)
theorem takesM_no (u : List AVal) (hI : ivM 0 u) (s : ByteArray) (hb : seqG gtM 11 0 u s = none) :
    FOk Try.prog 60 [.ptr 0 1 0 0, .slc false 1 1 0 11 none] [.rows true 1 [[.str s]], .rows false 1 flMt, .rows true 11 [u]] (.pan 117) [.dead, .dead, .dead] := by
  obtain ⟨rg', σ', r⟩ := (takes_run (c := loopNo Try.f60 0) 11 (fun i => rgtM (i : Nat)) (fun (u : List AVal) s => hptM u s) gtM ivM 0 (fun u s _ => TripN.wp (tMX_wp u 11 s ⟨by kernel_rfl, rfl, rfl, rfl⟩)) tM_round 11 0 (by omega) u s hI).2 hb
  exact (evalF_ok followed Try.func60 (by kernel_rfl) (show evalF Try.prog Try.f60 [.ptr 0 1 0 0, .slc false 1 1 0 11 none] [.rows true 1 [[.str s]], .rows false 1 flMt, .rows true 11 [u]] [Dec.compact (keepM 117 [0, 15, 16, 17]) [0, 1, 2], Dec.loop (.pan 117) rg' σ'] = .ok (FRes.mk (.pan 117) σ' [(owed Try.prog 3).loop (loopNo Try.f60 0) (rgtM 0) (hptM u s) (.pan 117) rg' σ']) by kernel_rfl) (allP_of ⟨r.trip, trivial⟩)).pan

end Go.L12
end

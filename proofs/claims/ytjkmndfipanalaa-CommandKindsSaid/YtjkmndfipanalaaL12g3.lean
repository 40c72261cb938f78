import Derived.Test.YtjkmndfipanalaaL12g2
section
set_option linter.unusedVariables false
set_option maxRecDepth 100000
namespace Go.L12
open Go Go.Abs Go.Proofs

theorem rFM_1 (u0 v0 : List AVal) (m s s2 : ByteArray) (b : Bool)
    (h1 : FOk Try.prog 58 [AVal.bool (ByteArray.toList s2 == ByteArray.toList (ByteArray.mk #[]))] [] (AVal.tuple []) [])
    (h2 : FOk Try.prog 60 [AVal.ptr 0 1 0 0, AVal.slc false 1 1 0 11 none] [AObj.rows true 1 [[AVal.str (ByteArray.extract s (Int.toNat (↑(ByteArray.size m) : Int)) (Int.toNat (↑(ByteArray.size s) : Int)))]], AObj.rows false 1 (flM 2), AObj.rows true 11 [u0]] (AVal.tuple []) [AObj.rows true 1 [[AVal.str s2]], AObj.rows false 1 (flM 2), AObj.rows true 11 [v0]])
    (h3 : decide (0 ≤ (↑(ByteArray.size m) : Int) ∧ (↑(ByteArray.size m) : Int) ≤ (↑(ByteArray.size s) : Int) ∧ (↑(ByteArray.size s) : Int) ≤ (↑(ByteArray.size s) : Int)) = true)
    (h4 : FOk Try.prog 58 [AVal.bool true] [] (AVal.tuple []) [])
    (h5 : FOk Try.prog 59 [AVal.str s, AVal.str m] [] (AVal.bool true) []) :
    TripN Try.prog 4 (codeTail (codeTail (bodyOf Try.f40))) (mkR 20 [(1, AVal.str m), (2, AVal.slc false 0 1 0 11 none), (3, AVal.ptr 2 1 0 0), (6, AVal.ptr 3 1 0 0)]) ([AObj.rows false 1 (flM 1), AObj.rows true 11 [u0], AObj.rows true 1 [[AVal.str s]], AObj.rows true 1 [[iI 0]]]) (AExit.ret) (mkR 20 [(6, AVal.ptr 3 1 0 0)]) ([AObj.rows false 1 (flM 1), AObj.rows true 11 [v0], AObj.rows true 1 [[AVal.str s2]], AObj.rows true 1 [[iI 0]]]) :=
  evalT (st := St.mk (mkR 20 [(1, AVal.str m), (2, AVal.slc false 0 1 0 11 none), (3, AVal.ptr 2 1 0 0), (6, AVal.ptr 3 1 0 0)]) ([AObj.rows false 1 (flM 1), AObj.rows true 11 [u0], AObj.rows true 1 [[AVal.str s]], AObj.rows true 1 [[iI 0]]]) ([Dec.use [] [AVal.str s, AVal.str m] [] (AVal.bool true) [], Dec.use [] [AVal.bool true] [] (AVal.tuple []) [], Dec.use [2, 0, 1] [AVal.ptr 0 1 0 0, AVal.slc false 1 1 0 11 none] [AObj.rows true 1 [[AVal.str (ByteArray.extract s (Int.toNat (↑(ByteArray.size m) : Int)) (Int.toNat (↑(ByteArray.size s) : Int)))]], AObj.rows false 1 (flM 2), AObj.rows true 11 [u0]] (AVal.tuple []) [AObj.rows true 1 [[AVal.str s2]], AObj.rows false 1 (flM 2), AObj.rows true 11 [v0]], Dec.use [] [AVal.bool (ByteArray.toList s2 == ByteArray.toList (ByteArray.mk #[]))] [] (AVal.tuple []) []]) []) (st' := St.mk (mkR 20 [(1, AVal.str m), (2, AVal.slc false 0 1 0 11 none), (3, AVal.ptr 2 1 0 0), (6, AVal.ptr 3 1 0 0), (7, AVal.str s), (8, AVal.str m), (9, AVal.bool true), (10, AVal.tuple []), (11, AVal.str s), (12, AVal.str m), (13, iI (↑(ByteArray.size m) : Int)), (14, AVal.str (ByteArray.extract s (Int.toNat (↑(ByteArray.size m) : Int)) (Int.toNat (↑(ByteArray.size s) : Int)))), (15, AVal.slc false 0 1 0 11 none), (16, AVal.tuple []), (17, AVal.str s2), (18, AVal.bool (ByteArray.toList s2 == ByteArray.toList (ByteArray.mk #[]))), (19, AVal.tuple [])]) ([AObj.rows false 1 (flM 1), AObj.rows true 11 [v0], AObj.rows true 1 [[AVal.str s2]], AObj.rows true 1 [[iI 0]]]) ([]) (tr 2 ++ ((Owed.use (owed Try.prog 4) 58 [] [AVal.bool (ByteArray.toList s2 == ByteArray.toList (ByteArray.mk #[]))] [AObj.rows false 1 (flM 1), AObj.rows true 11 [v0], AObj.rows true 1 [[AVal.str s2]], AObj.rows true 1 [[iI 0]]] [AVal.bool (ByteArray.toList s2 == ByteArray.toList (ByteArray.mk #[]))] [] (AVal.tuple []) []) :: (tr 3 ++ ((Owed.use (owed Try.prog 4) 60 [2, 0, 1] [AVal.ptr 2 1 0 0, AVal.slc false 0 1 0 11 none] [AObj.rows false 1 (flM 1), AObj.rows true 11 [u0], AObj.rows true 1 [[AVal.str (ByteArray.extract s (Int.toNat (↑(ByteArray.size m) : Int)) (Int.toNat (↑(ByteArray.size s) : Int)))]], AObj.rows true 1 [[iI 0]]] [AVal.ptr 0 1 0 0, AVal.slc false 1 1 0 11 none] [AObj.rows true 1 [[AVal.str (ByteArray.extract s (Int.toNat (↑(ByteArray.size m) : Int)) (Int.toNat (↑(ByteArray.size s) : Int)))]], AObj.rows false 1 (flM 2), AObj.rows true 11 [u0]] (AVal.tuple []) [AObj.rows true 1 [[AVal.str s2]], AObj.rows false 1 (flM 2), AObj.rows true 11 [v0]]) :: (tr 2 ++ ((decide (0 ≤ (↑(ByteArray.size m) : Int) ∧ (↑(ByteArray.size m) : Int) ≤ (↑(ByteArray.size s) : Int) ∧ (↑(ByteArray.size s) : Int) ≤ (↑(ByteArray.size s) : Int)) = true) :: (tr 3 ++ ((Owed.use (owed Try.prog 4) 58 [] [AVal.bool true] [AObj.rows false 1 (flM 1), AObj.rows true 11 [u0], AObj.rows true 1 [[AVal.str s]], AObj.rows true 1 [[iI 0]]] [AVal.bool true] [] (AVal.tuple []) []) :: ((Owed.use (owed Try.prog 4) 59 [] [AVal.str s, AVal.str m] [AObj.rows false 1 (flM 1), AObj.rows true 11 [u0], AObj.rows true 1 [[AVal.str s]], AObj.rows true 1 [[iI 0]]] [AVal.str s, AVal.str m] [] (AVal.bool true) []) :: (tr 3 ++ []))))))))))) followed (by kernel_rfl) (allP_of (trC 2 ⟨⟨h1, rfl, rfl, rfl⟩, (trC 3 ⟨⟨h2, rfl, rfl, rfl⟩, (trC 2 ⟨h3, (trC 3 ⟨⟨h4, rfl, rfl, rfl⟩, ⟨⟨h5, rfl, rfl, rfl⟩, (trC 3 trivial)⟩⟩)⟩)⟩)⟩)) (keepM 20 [6]) ([0, 1, 2, 3]) (by kernel_rfl) (by kernel_rfl) (by kernel_rfl)

theorem rFeM_1 (u0 v0 : List AVal) (m s s2 : ByteArray) (b : Bool)
    (h1 : FOk Try.prog 58 [AVal.bool (ByteArray.toList s2 == ByteArray.toList (ByteArray.mk #[]))] [] (AVal.pan 117) [])
    (h2 : FOk Try.prog 60 [AVal.ptr 0 1 0 0, AVal.slc false 1 1 0 11 none] [AObj.rows true 1 [[AVal.str (ByteArray.extract s (Int.toNat (↑(ByteArray.size m) : Int)) (Int.toNat (↑(ByteArray.size s) : Int)))]], AObj.rows false 1 (flM 2), AObj.rows true 11 [u0]] (AVal.tuple []) [AObj.rows true 1 [[AVal.str s2]], AObj.rows false 1 (flM 2), AObj.rows true 11 [v0]])
    (h3 : decide (0 ≤ (↑(ByteArray.size m) : Int) ∧ (↑(ByteArray.size m) : Int) ≤ (↑(ByteArray.size s) : Int) ∧ (↑(ByteArray.size s) : Int) ≤ (↑(ByteArray.size s) : Int)) = true)
    (h4 : FOk Try.prog 58 [AVal.bool true] [] (AVal.tuple []) [])
    (h5 : FOk Try.prog 59 [AVal.str s, AVal.str m] [] (AVal.bool true) []) :
    TripN Try.prog 4 (codeTail (codeTail (bodyOf Try.f40))) (mkR 20 [(1, AVal.str m), (2, AVal.slc false 0 1 0 11 none), (3, AVal.ptr 2 1 0 0), (6, AVal.ptr 3 1 0 0)]) ([AObj.rows false 1 (flM 1), AObj.rows true 11 [u0], AObj.rows true 1 [[AVal.str s]], AObj.rows true 1 [[iI 0]]]) (AExit.pan 117) (mkR 20 [(6, AVal.ptr 3 1 0 0)]) ([AObj.rows false 1 (flM 1), AObj.rows true 11 [v0], AObj.rows true 1 [[AVal.str s2]], AObj.rows true 1 [[iI 0]]]) :=
  evalT (st := St.mk (mkR 20 [(1, AVal.str m), (2, AVal.slc false 0 1 0 11 none), (3, AVal.ptr 2 1 0 0), (6, AVal.ptr 3 1 0 0)]) ([AObj.rows false 1 (flM 1), AObj.rows true 11 [u0], AObj.rows true 1 [[AVal.str s]], AObj.rows true 1 [[iI 0]]]) ([Dec.use [] [AVal.str s, AVal.str m] [] (AVal.bool true) [], Dec.use [] [AVal.bool true] [] (AVal.tuple []) [], Dec.use [2, 0, 1] [AVal.ptr 0 1 0 0, AVal.slc false 1 1 0 11 none] [AObj.rows true 1 [[AVal.str (ByteArray.extract s (Int.toNat (↑(ByteArray.size m) : Int)) (Int.toNat (↑(ByteArray.size s) : Int)))]], AObj.rows false 1 (flM 2), AObj.rows true 11 [u0]] (AVal.tuple []) [AObj.rows true 1 [[AVal.str s2]], AObj.rows false 1 (flM 2), AObj.rows true 11 [v0]], Dec.use [] [AVal.bool (ByteArray.toList s2 == ByteArray.toList (ByteArray.mk #[]))] [] (AVal.pan 117) []]) []) (st' := St.mk (mkR 20 [(1, AVal.str m), (2, AVal.slc false 0 1 0 11 none), (3, AVal.ptr 2 1 0 0), (6, AVal.ptr 3 1 0 0), (7, AVal.str s), (8, AVal.str m), (9, AVal.bool true), (10, AVal.tuple []), (11, AVal.str s), (12, AVal.str m), (13, iI (↑(ByteArray.size m) : Int)), (14, AVal.str (ByteArray.extract s (Int.toNat (↑(ByteArray.size m) : Int)) (Int.toNat (↑(ByteArray.size s) : Int)))), (15, AVal.slc false 0 1 0 11 none), (16, AVal.tuple []), (17, AVal.str s2), (18, AVal.bool (ByteArray.toList s2 == ByteArray.toList (ByteArray.mk #[])))]) ([AObj.rows false 1 (flM 1), AObj.rows true 11 [v0], AObj.rows true 1 [[AVal.str s2]], AObj.rows true 1 [[iI 0]]]) ([]) ((Owed.use (owed Try.prog 4) 58 [] [AVal.bool (ByteArray.toList s2 == ByteArray.toList (ByteArray.mk #[]))] [AObj.rows false 1 (flM 1), AObj.rows true 11 [v0], AObj.rows true 1 [[AVal.str s2]], AObj.rows true 1 [[iI 0]]] [AVal.bool (ByteArray.toList s2 == ByteArray.toList (ByteArray.mk #[]))] [] (AVal.pan 117) []) :: (tr 3 ++ ((Owed.use (owed Try.prog 4) 60 [2, 0, 1] [AVal.ptr 2 1 0 0, AVal.slc false 0 1 0 11 none] [AObj.rows false 1 (flM 1), AObj.rows true 11 [u0], AObj.rows true 1 [[AVal.str (ByteArray.extract s (Int.toNat (↑(ByteArray.size m) : Int)) (Int.toNat (↑(ByteArray.size s) : Int)))]], AObj.rows true 1 [[iI 0]]] [AVal.ptr 0 1 0 0, AVal.slc false 1 1 0 11 none] [AObj.rows true 1 [[AVal.str (ByteArray.extract s (Int.toNat (↑(ByteArray.size m) : Int)) (Int.toNat (↑(ByteArray.size s) : Int)))]], AObj.rows false 1 (flM 2), AObj.rows true 11 [u0]] (AVal.tuple []) [AObj.rows true 1 [[AVal.str s2]], AObj.rows false 1 (flM 2), AObj.rows true 11 [v0]]) :: (tr 2 ++ ((decide (0 ≤ (↑(ByteArray.size m) : Int) ∧ (↑(ByteArray.size m) : Int) ≤ (↑(ByteArray.size s) : Int) ∧ (↑(ByteArray.size s) : Int) ≤ (↑(ByteArray.size s) : Int)) = true) :: (tr 3 ++ ((Owed.use (owed Try.prog 4) 58 [] [AVal.bool true] [AObj.rows false 1 (flM 1), AObj.rows true 11 [u0], AObj.rows true 1 [[AVal.str s]], AObj.rows true 1 [[iI 0]]] [AVal.bool true] [] (AVal.tuple []) []) :: ((Owed.use (owed Try.prog 4) 59 [] [AVal.str s, AVal.str m] [AObj.rows false 1 (flM 1), AObj.rows true 11 [u0], AObj.rows true 1 [[AVal.str s]], AObj.rows true 1 [[iI 0]]] [AVal.str s, AVal.str m] [] (AVal.bool true) []) :: (tr 3 ++ [])))))))))) followed (by kernel_rfl) (allP_of ⟨⟨h1, rfl, rfl, rfl⟩, (trC 3 ⟨⟨h2, rfl, rfl, rfl⟩, (trC 2 ⟨h3, (trC 3 ⟨⟨h4, rfl, rfl, rfl⟩, ⟨⟨h5, rfl, rfl, rfl⟩, (trC 3 trivial)⟩⟩)⟩)⟩)⟩) (keepM 20 [6]) ([0, 1, 2, 3]) (by kernel_rfl) (by kernel_rfl) (by kernel_rfl)

theorem rFnM_1 (u0 : List AVal) (m s : ByteArray)
    (h1 : FOk Try.prog 60 [AVal.ptr 0 1 0 0, AVal.slc false 1 1 0 11 none] [AObj.rows true 1 [[AVal.str (ByteArray.extract s (Int.toNat (↑(ByteArray.size m) : Int)) (Int.toNat (↑(ByteArray.size s) : Int)))]], AObj.rows false 1 (flM 2), AObj.rows true 11 [u0]] (AVal.pan 117) [AObj.dead, AObj.dead, AObj.dead])
    (h2 : decide (0 ≤ (↑(ByteArray.size m) : Int) ∧ (↑(ByteArray.size m) : Int) ≤ (↑(ByteArray.size s) : Int) ∧ (↑(ByteArray.size s) : Int) ≤ (↑(ByteArray.size s) : Int)) = true)
    (h3 : FOk Try.prog 58 [AVal.bool true] [] (AVal.tuple []) [])
    (h4 : FOk Try.prog 59 [AVal.str s, AVal.str m] [] (AVal.bool true) []) :
    TripN Try.prog 4 (codeTail (codeTail (bodyOf Try.f40))) (mkR 20 [(1, AVal.str m), (2, AVal.slc false 0 1 0 11 none), (3, AVal.ptr 2 1 0 0), (6, AVal.ptr 3 1 0 0)]) ([AObj.rows false 1 (flM 1), AObj.rows true 11 [u0], AObj.rows true 1 [[AVal.str s]], AObj.rows true 1 [[iI 0]]]) (AExit.pan 117) (mkR 20 [(6, AVal.ptr 3 1 0 0)]) ([AObj.dead, AObj.dead, AObj.dead, AObj.rows true 1 [[iI 0]]]) :=
  evalT (st := St.mk (mkR 20 [(1, AVal.str m), (2, AVal.slc false 0 1 0 11 none), (3, AVal.ptr 2 1 0 0), (6, AVal.ptr 3 1 0 0)]) ([AObj.rows false 1 (flM 1), AObj.rows true 11 [u0], AObj.rows true 1 [[AVal.str s]], AObj.rows true 1 [[iI 0]]]) ([Dec.use [] [AVal.str s, AVal.str m] [] (AVal.bool true) [], Dec.use [] [AVal.bool true] [] (AVal.tuple []) [], Dec.use [2, 0, 1] [AVal.ptr 0 1 0 0, AVal.slc false 1 1 0 11 none] [AObj.rows true 1 [[AVal.str (ByteArray.extract s (Int.toNat (↑(ByteArray.size m) : Int)) (Int.toNat (↑(ByteArray.size s) : Int)))]], AObj.rows false 1 (flM 2), AObj.rows true 11 [u0]] (AVal.pan 117) [AObj.dead, AObj.dead, AObj.dead]]) []) (st' := St.mk (mkR 20 [(1, AVal.str m), (2, AVal.slc false 0 1 0 11 none), (3, AVal.ptr 2 1 0 0), (6, AVal.ptr 3 1 0 0), (7, AVal.str s), (8, AVal.str m), (9, AVal.bool true), (10, AVal.tuple []), (11, AVal.str s), (12, AVal.str m), (13, iI (↑(ByteArray.size m) : Int)), (14, AVal.str (ByteArray.extract s (Int.toNat (↑(ByteArray.size m) : Int)) (Int.toNat (↑(ByteArray.size s) : Int)))), (15, AVal.slc false 0 1 0 11 none)]) ([AObj.dead, AObj.dead, AObj.dead, AObj.rows true 1 [[iI 0]]]) ([]) ((Owed.use (owed Try.prog 4) 60 [2, 0, 1] [AVal.ptr 2 1 0 0, AVal.slc false 0 1 0 11 none] [AObj.rows false 1 (flM 1), AObj.rows true 11 [u0], AObj.rows true 1 [[AVal.str (ByteArray.extract s (Int.toNat (↑(ByteArray.size m) : Int)) (Int.toNat (↑(ByteArray.size s) : Int)))]], AObj.rows true 1 [[iI 0]]] [AVal.ptr 0 1 0 0, AVal.slc false 1 1 0 11 none] [AObj.rows true 1 [[AVal.str (ByteArray.extract s (Int.toNat (↑(ByteArray.size m) : Int)) (Int.toNat (↑(ByteArray.size s) : Int)))]], AObj.rows false 1 (flM 2), AObj.rows true 11 [u0]] (AVal.pan 117) [AObj.dead, AObj.dead, AObj.dead]) :: (tr 2 ++ ((decide (0 ≤ (↑(ByteArray.size m) : Int) ∧ (↑(ByteArray.size m) : Int) ≤ (↑(ByteArray.size s) : Int) ∧ (↑(ByteArray.size s) : Int) ≤ (↑(ByteArray.size s) : Int)) = true) :: (tr 3 ++ ((Owed.use (owed Try.prog 4) 58 [] [AVal.bool true] [AObj.rows false 1 (flM 1), AObj.rows true 11 [u0], AObj.rows true 1 [[AVal.str s]], AObj.rows true 1 [[iI 0]]] [AVal.bool true] [] (AVal.tuple []) []) :: ((Owed.use (owed Try.prog 4) 59 [] [AVal.str s, AVal.str m] [AObj.rows false 1 (flM 1), AObj.rows true 11 [u0], AObj.rows true 1 [[AVal.str s]], AObj.rows true 1 [[iI 0]]] [AVal.str s, AVal.str m] [] (AVal.bool true) []) :: (tr 3 ++ [])))))))) followed (by kernel_rfl) (allP_of ⟨⟨h1, rfl, rfl, rfl⟩, (trC 2 ⟨h2, (trC 3 ⟨⟨h3, rfl, rfl, rfl⟩, ⟨⟨h4, rfl, rfl, rfl⟩, (trC 3 trivial)⟩⟩)⟩)⟩) (keepM 20 [6]) ([0, 1, 2, 3]) (by kernel_rfl) (by kernel_rfl) (by kernel_rfl)

theorem rFpM_1 (u0 : List AVal) (m s : ByteArray)
    (h1 : FOk Try.prog 58 [AVal.bool false] [] (AVal.pan 117) [])
    (h2 : FOk Try.prog 59 [AVal.str s, AVal.str m] [] (AVal.bool false) []) :
    TripN Try.prog 4 (codeTail (codeTail (bodyOf Try.f40))) (mkR 20 [(1, AVal.str m), (2, AVal.slc false 0 1 0 11 none), (3, AVal.ptr 2 1 0 0), (6, AVal.ptr 3 1 0 0)]) ([AObj.rows false 1 (flM 1), AObj.rows true 11 [u0], AObj.rows true 1 [[AVal.str s]], AObj.rows true 1 [[iI 0]]]) (AExit.pan 117) (mkR 20 [(6, AVal.ptr 3 1 0 0)]) ([AObj.rows false 1 (flM 1), AObj.rows true 11 [u0], AObj.rows true 1 [[AVal.str s]], AObj.rows true 1 [[iI 0]]]) :=
  evalT (st := St.mk (mkR 20 [(1, AVal.str m), (2, AVal.slc false 0 1 0 11 none), (3, AVal.ptr 2 1 0 0), (6, AVal.ptr 3 1 0 0)]) ([AObj.rows false 1 (flM 1), AObj.rows true 11 [u0], AObj.rows true 1 [[AVal.str s]], AObj.rows true 1 [[iI 0]]]) ([Dec.use [] [AVal.str s, AVal.str m] [] (AVal.bool false) [], Dec.use [] [AVal.bool false] [] (AVal.pan 117) []]) []) (st' := St.mk (mkR 20 [(1, AVal.str m), (2, AVal.slc false 0 1 0 11 none), (3, AVal.ptr 2 1 0 0), (6, AVal.ptr 3 1 0 0), (7, AVal.str s), (8, AVal.str m), (9, AVal.bool false)]) ([AObj.rows false 1 (flM 1), AObj.rows true 11 [u0], AObj.rows true 1 [[AVal.str s]], AObj.rows true 1 [[iI 0]]]) ([]) ((Owed.use (owed Try.prog 4) 58 [] [AVal.bool false] [AObj.rows false 1 (flM 1), AObj.rows true 11 [u0], AObj.rows true 1 [[AVal.str s]], AObj.rows true 1 [[iI 0]]] [AVal.bool false] [] (AVal.pan 117) []) :: ((Owed.use (owed Try.prog 4) 59 [] [AVal.str s, AVal.str m] [AObj.rows false 1 (flM 1), AObj.rows true 11 [u0], AObj.rows true 1 [[AVal.str s]], AObj.rows true 1 [[iI 0]]] [AVal.str s, AVal.str m] [] (AVal.bool false) []) :: (tr 3 ++ [])))) followed (by kernel_rfl) (allP_of ⟨⟨h1, rfl, rfl, rfl⟩, ⟨⟨h2, rfl, rfl, rfl⟩, (trC 3 trivial)⟩⟩) (keepM 20 [6]) ([0, 1, 2, 3]) (by kernel_rfl) (by kernel_rfl) (by kernel_rfl)

theorem bFM_1 (v0 : List AVal) (s2 : ByteArray) :
    TripN Try.prog 4 (codeTail (bodyOf Try.f57)) (catchRegs 16 3 140 7 AVal.nili) ([AObj.rows false 1 (flM 1), AObj.rows true 11 [v0], AObj.rows true 1 [[AVal.str s2]], AObj.rows true 1 [[iI 0]]]) (AExit.normal) (mkR 16 []) ([AObj.rows false 1 (flM 1), AObj.rows true 11 [v0], AObj.rows true 1 [[AVal.str s2]], AObj.rows true 1 [[iI 0]]]) :=
  evalT (st := St.mk (catchRegs 16 3 140 7 AVal.nili) ([AObj.rows false 1 (flM 1), AObj.rows true 11 [v0], AObj.rows true 1 [[AVal.str s2]], AObj.rows true 1 [[iI 0]]]) ([Dec.br true]) []) (st' := St.mk (mkR 16 [(0, AVal.ptr 3 1 0 0), (1, iI 140), (2, AVal.tuple []), (3, AVal.tuple []), (4, AVal.nili), (5, AVal.tuple []), (6, AVal.tuple []), (7, AVal.nili), (8, AVal.tuple []), (9, AVal.tt true), (10, AVal.tuple []), (11, AVal.tuple []), (12, AVal.tuple []), (13, AVal.tuple []), (14, AVal.tuple []), (15, AVal.tuple [])]) ([AObj.rows false 1 (flM 1), AObj.rows true 11 [v0], AObj.rows true 1 [[AVal.str s2]], AObj.rows true 1 [[iI 0]]]) ([]) (tr 1 ++ [])) followed (by kernel_rfl) (allP_of (trC 1 trivial)) (keepM 16 []) ([0, 1, 2, 3]) (by kernel_rfl) (by kernel_rfl) (by kernel_rfl)

theorem bFnM_1 (x : Nat) :
    TripN Try.prog 4 (codeTail (bodyOf Try.f57)) (catchRegs 16 3 140 7 (AVal.iface 117 (AVal.agg []))) ([AObj.dead, AObj.dead, AObj.dead, AObj.rows true 1 [[iI 0]]]) (AExit.normal) (mkR 16 []) ([AObj.dead, AObj.dead, AObj.dead, AObj.rows true 1 [[iI 140]]]) :=
  evalT (st := St.mk (catchRegs 16 3 140 7 (AVal.iface 117 (AVal.agg []))) ([AObj.dead, AObj.dead, AObj.dead, AObj.rows true 1 [[iI 0]]]) ([Dec.br false]) []) (st' := St.mk (mkR 16 [(0, AVal.ptr 3 1 0 0), (1, iI 140), (2, AVal.tuple []), (3, AVal.tuple []), (4, AVal.tuple []), (5, AVal.ptr 4 0 0 0), (6, AVal.tuple []), (7, AVal.iface 117 (AVal.agg [])), (8, AVal.tuple []), (9, AVal.tt false), (10, AVal.tuple [AVal.agg [], AVal.tt true]), (11, AVal.tt true), (12, AVal.agg []), (13, AVal.ptr 3 1 0 0), (14, iI 140), (15, AVal.ptr 3 1 0 0)]) ([AObj.dead, AObj.dead, AObj.dead, AObj.rows true 1 [[iI 140]], AObj.rows true 0 [[]]]) ([]) (tr 4 ++ ((false = false) :: []))) followed (by kernel_rfl) (allP_of (trC 4 ⟨rfl, trivial⟩)) (keepM 16 []) ([0, 1, 2, 3]) (by kernel_rfl) (by kernel_rfl) (by kernel_rfl)

theorem hFM_1 (u0 : List AVal) (s m : ByteArray) :
    TripN Try.prog 2 (codeHd (bodyOf Try.f40)) ([AVal.str s, AVal.str m, AVal.slc false 0 1 0 11 none] ++ List.replicate (20 - 3) aundef) ([AObj.rows false 1 (flM 1), AObj.rows true 11 [u0]]) (AExit.normal) (mkR 20 [(1, AVal.str m), (2, AVal.slc false 0 1 0 11 none), (3, AVal.ptr 2 1 0 0), (6, AVal.ptr 3 1 0 0)]) ([AObj.rows false 1 (flM 1), AObj.rows true 11 [u0], AObj.rows true 1 [[AVal.str s]], AObj.rows true 1 [[iI 0]]]) :=
  evalT (st := St.mk ([AVal.str s, AVal.str m, AVal.slc false 0 1 0 11 none] ++ List.replicate (20 - 3) aundef) ([AObj.rows false 1 (flM 1), AObj.rows true 11 [u0]]) ([]) []) (st' := St.mk (mkR 20 [(0, AVal.str s), (1, AVal.str m), (2, AVal.slc false 0 1 0 11 none), (3, AVal.ptr 2 1 0 0), (4, AVal.tuple []), (5, AVal.tuple []), (6, AVal.ptr 3 1 0 0), (7, AVal.tuple []), (8, AVal.tuple []), (9, AVal.tuple []), (10, AVal.tuple []), (11, AVal.tuple []), (12, AVal.tuple []), (13, AVal.tuple []), (14, AVal.tuple []), (15, AVal.tuple []), (16, AVal.tuple []), (17, AVal.tuple []), (18, AVal.tuple []), (19, AVal.tuple [])]) ([AObj.rows false 1 (flM 1), AObj.rows true 11 [u0], AObj.rows true 1 [[AVal.str s]], AObj.rows true 1 [[iI 0]]]) ([]) []) followed (by kernel_rfl) (allP_of trivial) (keepM 20 [1, 2, 3, 6]) ([0, 1, 2, 3]) (by kernel_rfl) (by kernel_rfl) (by kernel_rfl)

end Go.L12
end

section
set_option linter.unusedVariables false
set_option maxRecDepth 100000
namespace Go.L12.D
open Go Go.Abs Go.Proofs Go.L12
variable [DS]

theorem rFM_1 (u0 v0 : List AVal) (m s s2 : ByteArray) (b : Bool)
    (h1 : FOk Try.prog 58 [AVal.bool (ByteArray.toList s2 == ByteArray.toList (ByteArray.mk #[]))] [] (AVal.tuple []) [])
    (h2 : FOk Try.prog 60 [AVal.ptr 0 1 0 0, AVal.slc false 1 1 0 11 none] [AObj.rows true 1 [[AVal.str (ByteArray.extract s (Int.toNat (↑(ByteArray.size m) : Int)) (Int.toNat (↑(ByteArray.size s) : Int)))]], AObj.rows false 1 (flM 2), AObj.rows true 11 [u0]] (AVal.tuple []) [AObj.rows true 1 [[AVal.str s2]], AObj.rows false 1 (flM 2), AObj.rows true 11 [v0]])
    (h3 : decide (0 ≤ (↑(ByteArray.size m) : Int) ∧ (↑(ByteArray.size m) : Int) ≤ (↑(ByteArray.size s) : Int) ∧ (↑(ByteArray.size s) : Int) ≤ (↑(ByteArray.size s) : Int)) = true)
    (h4 : FOk Try.prog 58 [AVal.bool true] [] (AVal.tuple []) [])
    (h5 : FOk Try.prog 59 [AVal.str s, AVal.str m] [] (AVal.bool true) []) :
    TripN Try.prog 4 (codeTail (codeTail (bodyOf Try.f40))) (mkR 20 [(1, AVal.str m), (2, AVal.slc false 0 1 0 11 none), (3, AVal.ptr 2 1 0 0), (6, AVal.ptr 3 1 0 0)]) ([AObj.rows false 1 (flM 1), AObj.rows true 11 [u0], AObj.rows true 1 [[AVal.str s]], AObj.rows true 1 [[AVal.int IntKind.i64 0]]]) (AExit.ret) (mkR 20 [(6, AVal.ptr 3 1 0 0)]) ([AObj.rows false 1 (flM 1), AObj.rows true 11 [v0], AObj.rows true 1 [[AVal.str s2]], AObj.rows true 1 [[AVal.int IntKind.i64 0]]]) :=
  evalT (st := St.mk (mkR 20 [(1, AVal.str m), (2, AVal.slc false 0 1 0 11 none), (3, AVal.ptr 2 1 0 0), (6, AVal.ptr 3 1 0 0)]) ([AObj.rows false 1 (flM 1), AObj.rows true 11 [u0], AObj.rows true 1 [[AVal.str s]], AObj.rows true 1 [[AVal.int IntKind.i64 0]]]) ([Dec.use [] [AVal.str s, AVal.str m] [] (AVal.bool true) [], Dec.use [] [AVal.bool true] [] (AVal.tuple []) [], Dec.use [2, 0, 1] [AVal.ptr 0 1 0 0, AVal.slc false 1 1 0 11 none] [AObj.rows true 1 [[AVal.str (ByteArray.extract s (Int.toNat (↑(ByteArray.size m) : Int)) (Int.toNat (↑(ByteArray.size s) : Int)))]], AObj.rows false 1 (flM 2), AObj.rows true 11 [u0]] (AVal.tuple []) [AObj.rows true 1 [[AVal.str s2]], AObj.rows false 1 (flM 2), AObj.rows true 11 [v0]], Dec.use [] [AVal.bool (ByteArray.toList s2 == ByteArray.toList (ByteArray.mk #[]))] [] (AVal.tuple []) []]) []) (st' := St.mk (mkR 20 [(1, AVal.str m), (2, AVal.slc false 0 1 0 11 none), (3, AVal.ptr 2 1 0 0), (6, AVal.ptr 3 1 0 0), (7, AVal.str s), (8, AVal.str m), (9, AVal.bool true), (10, AVal.tuple []), (11, AVal.str s), (12, AVal.str m), (13, AVal.int IntKind.i64 (↑(ByteArray.size m) : Int)), (14, AVal.str (ByteArray.extract s (Int.toNat (↑(ByteArray.size m) : Int)) (Int.toNat (↑(ByteArray.size s) : Int)))), (15, AVal.slc false 0 1 0 11 none), (16, AVal.tuple []), (17, AVal.str s2), (18, AVal.bool (ByteArray.toList s2 == ByteArray.toList (ByteArray.mk #[]))), (19, AVal.tuple [])]) ([AObj.rows false 1 (flM 1), AObj.rows true 11 [v0], AObj.rows true 1 [[AVal.str s2]], AObj.rows true 1 [[AVal.int IntKind.i64 0]]]) ([]) (tr 2 ++ ((Owed.use (owed Try.prog 4) 58 [] [AVal.bool (ByteArray.toList s2 == ByteArray.toList (ByteArray.mk #[]))] [AObj.rows false 1 (flM 1), AObj.rows true 11 [v0], AObj.rows true 1 [[AVal.str s2]], AObj.rows true 1 [[AVal.int IntKind.i64 0]]] [AVal.bool (ByteArray.toList s2 == ByteArray.toList (ByteArray.mk #[]))] [] (AVal.tuple []) []) :: (tr 3 ++ ((Owed.use (owed Try.prog 4) 60 [2, 0, 1] [AVal.ptr 2 1 0 0, AVal.slc false 0 1 0 11 none] [AObj.rows false 1 (flM 1), AObj.rows true 11 [u0], AObj.rows true 1 [[AVal.str (ByteArray.extract s (Int.toNat (↑(ByteArray.size m) : Int)) (Int.toNat (↑(ByteArray.size s) : Int)))]], AObj.rows true 1 [[AVal.int IntKind.i64 0]]] [AVal.ptr 0 1 0 0, AVal.slc false 1 1 0 11 none] [AObj.rows true 1 [[AVal.str (ByteArray.extract s (Int.toNat (↑(ByteArray.size m) : Int)) (Int.toNat (↑(ByteArray.size s) : Int)))]], AObj.rows false 1 (flM 2), AObj.rows true 11 [u0]] (AVal.tuple []) [AObj.rows true 1 [[AVal.str s2]], AObj.rows false 1 (flM 2), AObj.rows true 11 [v0]]) :: (tr 2 ++ ((decide (0 ≤ (↑(ByteArray.size m) : Int) ∧ (↑(ByteArray.size m) : Int) ≤ (↑(ByteArray.size s) : Int) ∧ (↑(ByteArray.size s) : Int) ≤ (↑(ByteArray.size s) : Int)) = true) :: (tr 3 ++ ((Owed.use (owed Try.prog 4) 58 [] [AVal.bool true] [AObj.rows false 1 (flM 1), AObj.rows true 11 [u0], AObj.rows true 1 [[AVal.str s]], AObj.rows true 1 [[AVal.int IntKind.i64 0]]] [AVal.bool true] [] (AVal.tuple []) []) :: ((Owed.use (owed Try.prog 4) 59 [] [AVal.str s, AVal.str m] [AObj.rows false 1 (flM 1), AObj.rows true 11 [u0], AObj.rows true 1 [[AVal.str s]], AObj.rows true 1 [[AVal.int IntKind.i64 0]]] [AVal.str s, AVal.str m] [] (AVal.bool true) []) :: (tr 3 ++ []))))))))))) followed (by kernel_rfl) (allP_of (trC 2 ⟨⟨h1, rfl, rfl, rfl⟩, (trC 3 ⟨⟨h2, rfl, rfl, rfl⟩, (trC 2 ⟨h3, (trC 3 ⟨⟨h4, rfl, rfl, rfl⟩, ⟨⟨h5, rfl, rfl, rfl⟩, (trC 3 trivial)⟩⟩)⟩)⟩)⟩)) (keepM 20 [6]) ([0, 1, 2, 3]) (by kernel_rfl) (by kernel_rfl) (by kernel_rfl)

theorem rFeM_1 (u0 v0 : List AVal) (m s s2 : ByteArray) (b : Bool)
    (h1 : FOk Try.prog 58 [AVal.bool (ByteArray.toList s2 == ByteArray.toList (ByteArray.mk #[]))] [] (AVal.pan 117) [])
    (h2 : FOk Try.prog 60 [AVal.ptr 0 1 0 0, AVal.slc false 1 1 0 11 none] [AObj.rows true 1 [[AVal.str (ByteArray.extract s (Int.toNat (↑(ByteArray.size m) : Int)) (Int.toNat (↑(ByteArray.size s) : Int)))]], AObj.rows false 1 (flM 2), AObj.rows true 11 [u0]] (AVal.tuple []) [AObj.rows true 1 [[AVal.str s2]], AObj.rows false 1 (flM 2), AObj.rows true 11 [v0]])
    (h3 : decide (0 ≤ (↑(ByteArray.size m) : Int) ∧ (↑(ByteArray.size m) : Int) ≤ (↑(ByteArray.size s) : Int) ∧ (↑(ByteArray.size s) : Int) ≤ (↑(ByteArray.size s) : Int)) = true)
    (h4 : FOk Try.prog 58 [AVal.bool true] [] (AVal.tuple []) [])
    (h5 : FOk Try.prog 59 [AVal.str s, AVal.str m] [] (AVal.bool true) []) :
    TripN Try.prog 4 (codeTail (codeTail (bodyOf Try.f40))) (mkR 20 [(1, AVal.str m), (2, AVal.slc false 0 1 0 11 none), (3, AVal.ptr 2 1 0 0), (6, AVal.ptr 3 1 0 0)]) ([AObj.rows false 1 (flM 1), AObj.rows true 11 [u0], AObj.rows true 1 [[AVal.str s]], AObj.rows true 1 [[AVal.int IntKind.i64 0]]]) (AExit.pan 117) (mkR 20 [(6, AVal.ptr 3 1 0 0)]) ([AObj.rows false 1 (flM 1), AObj.rows true 11 [v0], AObj.rows true 1 [[AVal.str s2]], AObj.rows true 1 [[AVal.int IntKind.i64 0]]]) :=
  evalT (st := St.mk (mkR 20 [(1, AVal.str m), (2, AVal.slc false 0 1 0 11 none), (3, AVal.ptr 2 1 0 0), (6, AVal.ptr 3 1 0 0)]) ([AObj.rows false 1 (flM 1), AObj.rows true 11 [u0], AObj.rows true 1 [[AVal.str s]], AObj.rows true 1 [[AVal.int IntKind.i64 0]]]) ([Dec.use [] [AVal.str s, AVal.str m] [] (AVal.bool true) [], Dec.use [] [AVal.bool true] [] (AVal.tuple []) [], Dec.use [2, 0, 1] [AVal.ptr 0 1 0 0, AVal.slc false 1 1 0 11 none] [AObj.rows true 1 [[AVal.str (ByteArray.extract s (Int.toNat (↑(ByteArray.size m) : Int)) (Int.toNat (↑(ByteArray.size s) : Int)))]], AObj.rows false 1 (flM 2), AObj.rows true 11 [u0]] (AVal.tuple []) [AObj.rows true 1 [[AVal.str s2]], AObj.rows false 1 (flM 2), AObj.rows true 11 [v0]], Dec.use [] [AVal.bool (ByteArray.toList s2 == ByteArray.toList (ByteArray.mk #[]))] [] (AVal.pan 117) []]) []) (st' := St.mk (mkR 20 [(1, AVal.str m), (2, AVal.slc false 0 1 0 11 none), (3, AVal.ptr 2 1 0 0), (6, AVal.ptr 3 1 0 0), (7, AVal.str s), (8, AVal.str m), (9, AVal.bool true), (10, AVal.tuple []), (11, AVal.str s), (12, AVal.str m), (13, AVal.int IntKind.i64 (↑(ByteArray.size m) : Int)), (14, AVal.str (ByteArray.extract s (Int.toNat (↑(ByteArray.size m) : Int)) (Int.toNat (↑(ByteArray.size s) : Int)))), (15, AVal.slc false 0 1 0 11 none), (16, AVal.tuple []), (17, AVal.str s2), (18, AVal.bool (ByteArray.toList s2 == ByteArray.toList (ByteArray.mk #[])))]) ([AObj.rows false 1 (flM 1), AObj.rows true 11 [v0], AObj.rows true 1 [[AVal.str s2]], AObj.rows true 1 [[AVal.int IntKind.i64 0]]]) ([]) ((Owed.use (owed Try.prog 4) 58 [] [AVal.bool (ByteArray.toList s2 == ByteArray.toList (ByteArray.mk #[]))] [AObj.rows false 1 (flM 1), AObj.rows true 11 [v0], AObj.rows true 1 [[AVal.str s2]], AObj.rows true 1 [[AVal.int IntKind.i64 0]]] [AVal.bool (ByteArray.toList s2 == ByteArray.toList (ByteArray.mk #[]))] [] (AVal.pan 117) []) :: (tr 3 ++ ((Owed.use (owed Try.prog 4) 60 [2, 0, 1] [AVal.ptr 2 1 0 0, AVal.slc false 0 1 0 11 none] [AObj.rows false 1 (flM 1), AObj.rows true 11 [u0], AObj.rows true 1 [[AVal.str (ByteArray.extract s (Int.toNat (↑(ByteArray.size m) : Int)) (Int.toNat (↑(ByteArray.size s) : Int)))]], AObj.rows true 1 [[AVal.int IntKind.i64 0]]] [AVal.ptr 0 1 0 0, AVal.slc false 1 1 0 11 none] [AObj.rows true 1 [[AVal.str (ByteArray.extract s (Int.toNat (↑(ByteArray.size m) : Int)) (Int.toNat (↑(ByteArray.size s) : Int)))]], AObj.rows false 1 (flM 2), AObj.rows true 11 [u0]] (AVal.tuple []) [AObj.rows true 1 [[AVal.str s2]], AObj.rows false 1 (flM 2), AObj.rows true 11 [v0]]) :: (tr 2 ++ ((decide (0 ≤ (↑(ByteArray.size m) : Int) ∧ (↑(ByteArray.size m) : Int) ≤ (↑(ByteArray.size s) : Int) ∧ (↑(ByteArray.size s) : Int) ≤ (↑(ByteArray.size s) : Int)) = true) :: (tr 3 ++ ((Owed.use (owed Try.prog 4) 58 [] [AVal.bool true] [AObj.rows false 1 (flM 1), AObj.rows true 11 [u0], AObj.rows true 1 [[AVal.str s]], AObj.rows true 1 [[AVal.int IntKind.i64 0]]] [AVal.bool true] [] (AVal.tuple []) []) :: ((Owed.use (owed Try.prog 4) 59 [] [AVal.str s, AVal.str m] [AObj.rows false 1 (flM 1), AObj.rows true 11 [u0], AObj.rows true 1 [[AVal.str s]], AObj.rows true 1 [[AVal.int IntKind.i64 0]]] [AVal.str s, AVal.str m] [] (AVal.bool true) []) :: (tr 3 ++ [])))))))))) followed (by kernel_rfl) (allP_of ⟨⟨h1, rfl, rfl, rfl⟩, (trC 3 ⟨⟨h2, rfl, rfl, rfl⟩, (trC 2 ⟨h3, (trC 3 ⟨⟨h4, rfl, rfl, rfl⟩, ⟨⟨h5, rfl, rfl, rfl⟩, (trC 3 trivial)⟩⟩)⟩)⟩)⟩) (keepM 20 [6]) ([0, 1, 2, 3]) (by kernel_rfl) (by kernel_rfl) (by kernel_rfl)

theorem rFnM_1 (u0 : List AVal) (m s : ByteArray)
    (h1 : FOk Try.prog 60 [AVal.ptr 0 1 0 0, AVal.slc false 1 1 0 11 none] [AObj.rows true 1 [[AVal.str (ByteArray.extract s (Int.toNat (↑(ByteArray.size m) : Int)) (Int.toNat (↑(ByteArray.size s) : Int)))]], AObj.rows false 1 (flM 2), AObj.rows true 11 [u0]] (AVal.pan 117) [AObj.dead, AObj.dead, AObj.dead])
    (h2 : decide (0 ≤ (↑(ByteArray.size m) : Int) ∧ (↑(ByteArray.size m) : Int) ≤ (↑(ByteArray.size s) : Int) ∧ (↑(ByteArray.size s) : Int) ≤ (↑(ByteArray.size s) : Int)) = true)
    (h3 : FOk Try.prog 58 [AVal.bool true] [] (AVal.tuple []) [])
    (h4 : FOk Try.prog 59 [AVal.str s, AVal.str m] [] (AVal.bool true) []) :
    TripN Try.prog 4 (codeTail (codeTail (bodyOf Try.f40))) (mkR 20 [(1, AVal.str m), (2, AVal.slc false 0 1 0 11 none), (3, AVal.ptr 2 1 0 0), (6, AVal.ptr 3 1 0 0)]) ([AObj.rows false 1 (flM 1), AObj.rows true 11 [u0], AObj.rows true 1 [[AVal.str s]], AObj.rows true 1 [[AVal.int IntKind.i64 0]]]) (AExit.pan 117) (mkR 20 [(6, AVal.ptr 3 1 0 0)]) ([AObj.dead, AObj.dead, AObj.dead, AObj.rows true 1 [[AVal.int IntKind.i64 0]]]) :=
  evalT (st := St.mk (mkR 20 [(1, AVal.str m), (2, AVal.slc false 0 1 0 11 none), (3, AVal.ptr 2 1 0 0), (6, AVal.ptr 3 1 0 0)]) ([AObj.rows false 1 (flM 1), AObj.rows true 11 [u0], AObj.rows true 1 [[AVal.str s]], AObj.rows true 1 [[AVal.int IntKind.i64 0]]]) ([Dec.use [] [AVal.str s, AVal.str m] [] (AVal.bool true) [], Dec.use [] [AVal.bool true] [] (AVal.tuple []) [], Dec.use [2, 0, 1] [AVal.ptr 0 1 0 0, AVal.slc false 1 1 0 11 none] [AObj.rows true 1 [[AVal.str (ByteArray.extract s (Int.toNat (↑(ByteArray.size m) : Int)) (Int.toNat (↑(ByteArray.size s) : Int)))]], AObj.rows false 1 (flM 2), AObj.rows true 11 [u0]] (AVal.pan 117) [AObj.dead, AObj.dead, AObj.dead]]) []) (st' := St.mk (mkR 20 [(1, AVal.str m), (2, AVal.slc false 0 1 0 11 none), (3, AVal.ptr 2 1 0 0), (6, AVal.ptr 3 1 0 0), (7, AVal.str s), (8, AVal.str m), (9, AVal.bool true), (10, AVal.tuple []), (11, AVal.str s), (12, AVal.str m), (13, AVal.int IntKind.i64 (↑(ByteArray.size m) : Int)), (14, AVal.str (ByteArray.extract s (Int.toNat (↑(ByteArray.size m) : Int)) (Int.toNat (↑(ByteArray.size s) : Int)))), (15, AVal.slc false 0 1 0 11 none)]) ([AObj.dead, AObj.dead, AObj.dead, AObj.rows true 1 [[AVal.int IntKind.i64 0]]]) ([]) ((Owed.use (owed Try.prog 4) 60 [2, 0, 1] [AVal.ptr 2 1 0 0, AVal.slc false 0 1 0 11 none] [AObj.rows false 1 (flM 1), AObj.rows true 11 [u0], AObj.rows true 1 [[AVal.str (ByteArray.extract s (Int.toNat (↑(ByteArray.size m) : Int)) (Int.toNat (↑(ByteArray.size s) : Int)))]], AObj.rows true 1 [[AVal.int IntKind.i64 0]]] [AVal.ptr 0 1 0 0, AVal.slc false 1 1 0 11 none] [AObj.rows true 1 [[AVal.str (ByteArray.extract s (Int.toNat (↑(ByteArray.size m) : Int)) (Int.toNat (↑(ByteArray.size s) : Int)))]], AObj.rows false 1 (flM 2), AObj.rows true 11 [u0]] (AVal.pan 117) [AObj.dead, AObj.dead, AObj.dead]) :: (tr 2 ++ ((decide (0 ≤ (↑(ByteArray.size m) : Int) ∧ (↑(ByteArray.size m) : Int) ≤ (↑(ByteArray.size s) : Int) ∧ (↑(ByteArray.size s) : Int) ≤ (↑(ByteArray.size s) : Int)) = true) :: (tr 3 ++ ((Owed.use (owed Try.prog 4) 58 [] [AVal.bool true] [AObj.rows false 1 (flM 1), AObj.rows true 11 [u0], AObj.rows true 1 [[AVal.str s]], AObj.rows true 1 [[AVal.int IntKind.i64 0]]] [AVal.bool true] [] (AVal.tuple []) []) :: ((Owed.use (owed Try.prog 4) 59 [] [AVal.str s, AVal.str m] [AObj.rows false 1 (flM 1), AObj.rows true 11 [u0], AObj.rows true 1 [[AVal.str s]], AObj.rows true 1 [[AVal.int IntKind.i64 0]]] [AVal.str s, AVal.str m] [] (AVal.bool true) []) :: (tr 3 ++ [])))))))) followed (by kernel_rfl) (allP_of ⟨⟨h1, rfl, rfl, rfl⟩, (trC 2 ⟨h2, (trC 3 ⟨⟨h3, rfl, rfl, rfl⟩, ⟨⟨h4, rfl, rfl, rfl⟩, (trC 3 trivial)⟩⟩)⟩)⟩) (keepM 20 [6]) ([0, 1, 2, 3]) (by kernel_rfl) (by kernel_rfl) (by kernel_rfl)

theorem rFpM_1 (u0 : List AVal) (m s : ByteArray)
    (h1 : FOk Try.prog 58 [AVal.bool false] [] (AVal.pan 117) [])
    (h2 : FOk Try.prog 59 [AVal.str s, AVal.str m] [] (AVal.bool false) []) :
    TripN Try.prog 4 (codeTail (codeTail (bodyOf Try.f40))) (mkR 20 [(1, AVal.str m), (2, AVal.slc false 0 1 0 11 none), (3, AVal.ptr 2 1 0 0), (6, AVal.ptr 3 1 0 0)]) ([AObj.rows false 1 (flM 1), AObj.rows true 11 [u0], AObj.rows true 1 [[AVal.str s]], AObj.rows true 1 [[AVal.int IntKind.i64 0]]]) (AExit.pan 117) (mkR 20 [(6, AVal.ptr 3 1 0 0)]) ([AObj.rows false 1 (flM 1), AObj.rows true 11 [u0], AObj.rows true 1 [[AVal.str s]], AObj.rows true 1 [[AVal.int IntKind.i64 0]]]) :=
  evalT (st := St.mk (mkR 20 [(1, AVal.str m), (2, AVal.slc false 0 1 0 11 none), (3, AVal.ptr 2 1 0 0), (6, AVal.ptr 3 1 0 0)]) ([AObj.rows false 1 (flM 1), AObj.rows true 11 [u0], AObj.rows true 1 [[AVal.str s]], AObj.rows true 1 [[AVal.int IntKind.i64 0]]]) ([Dec.use [] [AVal.str s, AVal.str m] [] (AVal.bool false) [], Dec.use [] [AVal.bool false] [] (AVal.pan 117) []]) []) (st' := St.mk (mkR 20 [(1, AVal.str m), (2, AVal.slc false 0 1 0 11 none), (3, AVal.ptr 2 1 0 0), (6, AVal.ptr 3 1 0 0), (7, AVal.str s), (8, AVal.str m), (9, AVal.bool false)]) ([AObj.rows false 1 (flM 1), AObj.rows true 11 [u0], AObj.rows true 1 [[AVal.str s]], AObj.rows true 1 [[AVal.int IntKind.i64 0]]]) ([]) ((Owed.use (owed Try.prog 4) 58 [] [AVal.bool false] [AObj.rows false 1 (flM 1), AObj.rows true 11 [u0], AObj.rows true 1 [[AVal.str s]], AObj.rows true 1 [[AVal.int IntKind.i64 0]]] [AVal.bool false] [] (AVal.pan 117) []) :: ((Owed.use (owed Try.prog 4) 59 [] [AVal.str s, AVal.str m] [AObj.rows false 1 (flM 1), AObj.rows true 11 [u0], AObj.rows true 1 [[AVal.str s]], AObj.rows true 1 [[AVal.int IntKind.i64 0]]] [AVal.str s, AVal.str m] [] (AVal.bool false) []) :: (tr 3 ++ [])))) followed (by kernel_rfl) (allP_of ⟨⟨h1, rfl, rfl, rfl⟩, ⟨⟨h2, rfl, rfl, rfl⟩, (trC 3 trivial)⟩⟩) (keepM 20 [6]) ([0, 1, 2, 3]) (by kernel_rfl) (by kernel_rfl) (by kernel_rfl)

end Go.L12.D
end

section
set_option linter.unusedVariables false
set_option linter.unusedSimpArgs false
set_option maxRecDepth 100000
namespace Go.L12
open Go Go.Abs Go.Proofs

theorem fromM_ok (u0 v0 : List AVal) (s m : ByteArray) (hp : (lB m <+: lB s)) (h : FOk Try.prog 60 [.ptr 0 1 0 0, .slc false 1 1 0 11 none] [.rows true 1 [[.str (s.extract m.size s.size)]], .rows false 1 (flM 2), .rows true 11 [u0]] (.tuple []) [.rows true 1 [[.str ⟨#[]⟩]], .rows false 1 (flM 2), .rows true 11 [v0]]) :
    FOk Try.prog 40 [.str s, .str m, .slc false 0 1 0 11 none] [.rows false 1 (flM 1), .rows true 11 [u0]] (.int .i64 0) [.rows false 1 (flM 1), .rows true 11 [v0]] :=
  have hl := hp.length_le
  have hl : m.size ≤ s.size := by rw [lB_length, lB_length] at hl; exact hl
  (defer_calls (P := Try.prog) (f := 40) (fn := Try.f40) (c0 := .seq (codeHd (bodyOf Try.f40)) (.seq (.region 1 #[firstOp (codeTail (bodyOf Try.f40))] false) (codeTail (codeTail (bodyOf Try.f40))))) (rest := codeTail (codeTail (bodyOf Try.f40))) (blk := codeTail (bodyOf Try.f57)) (dop := firstOp (codeTail (bodyOf Try.f40))) (rop := firstOp (bodyOf Try.f57)) (gn := Try.f57) (g := 57) (no := 140) (k := 6) (kk := 7) (id := 3) (rid := 1) (rid2 := 0) (ts := #[102, 26]) (tsr := #[]) (xs := [.str s, .str m, .slc false 0 1 0 11 none]) (σ := [.rows false 1 (flM 1), .rows true 11 [u0]]) (σ1 := [.rows false 1 (flM 1), .rows true 11 [u0], .rows true 1 [[.str s]], .rows true 1 [[.int .i64 0]]]) (y := ([.int .i64 0], tr 3 ++ []))
    rfl Try.func40 (by kernel_rfl) (by kernel_rfl) (by kernel_rfl) (by kernel_rfl) (by kernel_rfl) Try.func57 (by kernel_rfl) (by kernel_rfl) (by kernel_rfl) (by kernel_rfl) (by kernel_rfl) (by kernel_rfl)
    (Pre.one (hFM_1 u0 s m)) (fun ds => @D.rFM_1 ⟨ds⟩ u0 v0 m s ⟨#[]⟩ true (right_ok _ (by simp)) h (decide_eq_true (by omega)) (right_ok _ rfl) (by have := hasPrefix_ok s m; rw [decide_eq_true hp] at this; exact this)) (by kernel_rfl) (.inl ⟨rfl, rfl⟩) (bFM_1 v0 ⟨#[]⟩) (by kernel_rfl) tr3).move [0, 1] (by kernel_rfl) (by kernel_rfl) (by kernel_rfl)
theorem fromM_more (u0 v0 : List AVal) (s m s2 : ByteArray) (hp : (lB m <+: lB s)) (h2 : s2.size ≠ 0) (h : FOk Try.prog 60 [.ptr 0 1 0 0, .slc false 1 1 0 11 none] [.rows true 1 [[.str (s.extract m.size s.size)]], .rows false 1 (flM 2), .rows true 11 [u0]] (.tuple []) [.rows true 1 [[.str s2]], .rows false 1 (flM 2), .rows true 11 [v0]]) :
    FOk Try.prog 40 [.str s, .str m, .slc false 0 1 0 11 none] [.rows false 1 (flM 1), .rows true 11 [u0]] (.int .i64 140) [.dead, .dead] :=
  have hl := hp.length_le
  have hl : m.size ≤ s.size := by rw [lB_length, lB_length] at hl; exact hl
  have hne : (s2.toList == (ByteArray.mk #[]).toList) = false := by
    rw [toList_lB, toList_lB, beq_eq_false_iff_ne]
    intro e
    have := lB_inj e
    subst this
    exact h2 rfl
  (defer_calls (P := Try.prog) (f := 40) (fn := Try.f40) (c0 := .seq (codeHd (bodyOf Try.f40)) (.seq (.region 1 #[firstOp (codeTail (bodyOf Try.f40))] false) (codeTail (codeTail (bodyOf Try.f40))))) (rest := codeTail (codeTail (bodyOf Try.f40))) (blk := codeTail (bodyOf Try.f57)) (dop := firstOp (codeTail (bodyOf Try.f40))) (rop := firstOp (bodyOf Try.f57)) (gn := Try.f57) (g := 57) (no := 140) (k := 6) (kk := 7) (id := 3) (rid := 1) (rid2 := 0) (ts := #[102, 26]) (tsr := #[]) (xs := [.str s, .str m, .slc false 0 1 0 11 none]) (σ := [.rows false 1 (flM 1), .rows true 11 [u0]]) (σ1 := [.rows false 1 (flM 1), .rows true 11 [u0], .rows true 1 [[.str s]], .rows true 1 [[.int .i64 0]]]) (y := ([.int .i64 140], tr 3 ++ []))
    rfl Try.func40 (by kernel_rfl) (by kernel_rfl) (by kernel_rfl) (by kernel_rfl) (by kernel_rfl) Try.func57 (by kernel_rfl) (by kernel_rfl) (by kernel_rfl) (by kernel_rfl) (by kernel_rfl) (by kernel_rfl)
    (Pre.one (hFM_1 u0 s m)) (fun ds => @TripN.deadH (@dsG ⟨ds⟩) _ _ _ _ _ _ _ _ (@D.rFeM_1 ⟨ds⟩ u0 v0 m s s2 true (right_no _ hne) h (decide_eq_true (by omega)) (right_ok _ rfl) (by have := hasPrefix_ok s m; rw [decide_eq_true hp] at this; exact this)) [true, true, true]) (by kernel_rfl) (.inr ⟨117, rfl, rfl⟩) (bFnM_1 0) (by kernel_rfl) tr3).move [0, 1] (by kernel_rfl) (by kernel_rfl) (by kernel_rfl)
theorem fromM_no (u0 : List AVal) (s m : ByteArray) (hp : (lB m <+: lB s)) (h : FOk Try.prog 60 [.ptr 0 1 0 0, .slc false 1 1 0 11 none] [.rows true 1 [[.str (s.extract m.size s.size)]], .rows false 1 (flM 2), .rows true 11 [u0]] (.pan 117) [.dead, .dead, .dead]) :
    FOk Try.prog 40 [.str s, .str m, .slc false 0 1 0 11 none] [.rows false 1 (flM 1), .rows true 11 [u0]] (.int .i64 140) [.dead, .dead] :=
  have hl := hp.length_le
  have hl : m.size ≤ s.size := by rw [lB_length, lB_length] at hl; exact hl
  (defer_calls (P := Try.prog) (f := 40) (fn := Try.f40) (c0 := .seq (codeHd (bodyOf Try.f40)) (.seq (.region 1 #[firstOp (codeTail (bodyOf Try.f40))] false) (codeTail (codeTail (bodyOf Try.f40))))) (rest := codeTail (codeTail (bodyOf Try.f40))) (blk := codeTail (bodyOf Try.f57)) (dop := firstOp (codeTail (bodyOf Try.f40))) (rop := firstOp (bodyOf Try.f57)) (gn := Try.f57) (g := 57) (no := 140) (k := 6) (kk := 7) (id := 3) (rid := 1) (rid2 := 0) (ts := #[102, 26]) (tsr := #[]) (xs := [.str s, .str m, .slc false 0 1 0 11 none]) (σ := [.rows false 1 (flM 1), .rows true 11 [u0]]) (σ1 := [.rows false 1 (flM 1), .rows true 11 [u0], .rows true 1 [[.str s]], .rows true 1 [[.int .i64 0]]]) (y := ([.int .i64 140], tr 3 ++ []))
    rfl Try.func40 (by kernel_rfl) (by kernel_rfl) (by kernel_rfl) (by kernel_rfl) (by kernel_rfl) Try.func57 (by kernel_rfl) (by kernel_rfl) (by kernel_rfl) (by kernel_rfl) (by kernel_rfl) (by kernel_rfl)
    (Pre.one (hFM_1 u0 s m)) (fun ds => @D.rFnM_1 ⟨ds⟩ u0 m s h (decide_eq_true (by omega)) (right_ok _ rfl) (by have := hasPrefix_ok s m; rw [decide_eq_true hp] at this; exact this)) (by kernel_rfl) (.inr ⟨117, rfl, rfl⟩) (bFnM_1 0) (by kernel_rfl) tr3).move [0, 1] (by kernel_rfl) (by kernel_rfl) (by kernel_rfl)
theorem fromM_mark (u0 : List AVal) (s m : ByteArray) (hp : ¬ (lB m <+: lB s)) :
    FOk Try.prog 40 [.str s, .str m, .slc false 0 1 0 11 none] [.rows false 1 (flM 1), .rows true 11 [u0]] (.int .i64 140) [.dead, .dead] :=
  (defer_calls (P := Try.prog) (f := 40) (fn := Try.f40) (c0 := .seq (codeHd (bodyOf Try.f40)) (.seq (.region 1 #[firstOp (codeTail (bodyOf Try.f40))] false) (codeTail (codeTail (bodyOf Try.f40))))) (rest := codeTail (codeTail (bodyOf Try.f40))) (blk := codeTail (bodyOf Try.f57)) (dop := firstOp (codeTail (bodyOf Try.f40))) (rop := firstOp (bodyOf Try.f57)) (gn := Try.f57) (g := 57) (no := 140) (k := 6) (kk := 7) (id := 3) (rid := 1) (rid2 := 0) (ts := #[102, 26]) (tsr := #[]) (xs := [.str s, .str m, .slc false 0 1 0 11 none]) (σ := [.rows false 1 (flM 1), .rows true 11 [u0]]) (σ1 := [.rows false 1 (flM 1), .rows true 11 [u0], .rows true 1 [[.str s]], .rows true 1 [[.int .i64 0]]]) (y := ([.int .i64 140], tr 3 ++ []))
    rfl Try.func40 (by kernel_rfl) (by kernel_rfl) (by kernel_rfl) (by kernel_rfl) (by kernel_rfl) Try.func57 (by kernel_rfl) (by kernel_rfl) (by kernel_rfl) (by kernel_rfl) (by kernel_rfl) (by kernel_rfl)
    (Pre.one (hFM_1 u0 s m)) (fun ds => @TripN.deadH (@dsG ⟨ds⟩) _ _ _ _ _ _ _ _ (@D.rFpM_1 ⟨ds⟩ u0 m s (right_no _ rfl) (by have := hasPrefix_ok s m; rw [decide_eq_false hp] at this; exact this)) [true, true, true]) (by kernel_rfl) (.inr ⟨117, rfl, rfl⟩) (bFnM_1 0) (by kernel_rfl) tr3).move [0, 1] (by kernel_rfl) (by kernel_rfl) (by kernel_rfl)
end Go.L12
end

section
set_option linter.unusedVariables false
set_option linter.unusedSimpArgs false
set_option maxRecDepth 100000
namespace Go.L12
open Go Go.Abs Go.Proofs

theorem fldzM_1 (z : Int) :
    FOk Try.prog 47 ([AVal.ptr 0 11 0 0]) ([AObj.rows false 11 [[iI z, iI 0, iI 0, iI 0, iI 0, iI 0, iI 0, AVal.fsl true 0 [] (some 0), iI 0, AVal.tt false, AVal.str (ByteArray.mk #[])]]]) (AVal.slc false 1 1 0 11 (some 11)) ([AObj.rows false 11 [[iI z, iI 0, iI 0, iI 0, iI 0, iI 0, iI 0, AVal.fsl true 0 [] (some 0), iI 0, AVal.tt false, AVal.str (ByteArray.mk #[])]], AObj.rows false 1 (flM 0)]) :=
  (evalF_ok followed Try.func47 (by kernel_rfl) (show evalF Try.prog Try.f47 ([AVal.ptr 0 11 0 0]) ([AObj.rows false 11 [[iI z, iI 0, iI 0, iI 0, iI 0, iI 0, iI 0, AVal.fsl true 0 [] (some 0), iI 0, AVal.tt false, AVal.str (ByteArray.mk #[])]]]) ([]) = .ok (FRes.mk (AVal.slc false 1 1 0 11 (some 11)) ([AObj.rows false 11 [[iI z, iI 0, iI 0, iI 0, iI 0, iI 0, iI 0, AVal.fsl true 0 [] (some 0), iI 0, AVal.tt false, AVal.str (ByteArray.mk #[])]], AObj.rows false 1 (flM 0)]) (tr 93 ++ [])) by kernel_rfl) (allP_of (trC 93 trivial))).move ([0, 1]) (by kernel_rfl) (by kernel_rfl) (by kernel_rfl)

end Go.L12
end

section
set_option linter.unusedVariables false
set_option linter.unusedSimpArgs false
set_option maxRecDepth 100000
namespace Go.L12
open Go Go.Abs Go.Proofs

theorem FromM_1 (m0 m1 m2 m3 m4 m5 m6 m8 : Int) (m9 : Bool) (m10 : ByteArray) (nb : Bool) (rs : List (List AVal)) (s : ByteArray)
    (h1 : FOk Try.prog 40 [AVal.str s, AVal.str (ByteArray.mk #[77]), AVal.slc false 0 1 0 11 (some 11)] [AObj.rows false 1 (flM 1), AObj.rows false 11 [[iI 0, iI 0, iI 0, iI 0, iI 0, iI 0, iI 0, AVal.fsl true 0 [] (some 0), iI 0, AVal.tt false, AVal.str (ByteArray.mk #[])]]] (iI 0) [AObj.rows false 1 (flM 1), AObj.rows true 11 [(rM m0 m1 m2 m3 m4 m5 m6 (AVal.fsl nb 2 rs none) m8 m9 m10)]]) :
    FOk Try.prog 21 ([AVal.str s]) ([]) (AVal.tuple [AVal.agg (rM m0 m1 m2 m3 m4 m5 m6 (AVal.fsl nb 2 rs none) m8 m9 m10), iI 0]) ([]) :=
  (evalF_ok followed Try.func21 (by kernel_rfl) (show evalF Try.prog Try.f21 ([AVal.str s]) ([]) ([Dec.use [1] [AVal.ptr 0 11 0 0] [AObj.rows false 11 [[iI 0, iI 0, iI 0, iI 0, iI 0, iI 0, iI 0, AVal.fsl true 0 [] (some 0), iI 0, AVal.tt false, AVal.str (ByteArray.mk #[])]]] (AVal.slc false 1 1 0 11 (some 11)) [AObj.rows false 11 [[iI 0, iI 0, iI 0, iI 0, iI 0, iI 0, iI 0, AVal.fsl true 0 [] (some 0), iI 0, AVal.tt false, AVal.str (ByteArray.mk #[])]], AObj.rows false 1 (flM 0)], Dec.use [2, 1] [AVal.str s, AVal.str (ByteArray.mk #[77]), AVal.slc false 0 1 0 11 (some 11)] [AObj.rows false 1 (flM 1), AObj.rows false 11 [[iI 0, iI 0, iI 0, iI 0, iI 0, iI 0, iI 0, AVal.fsl true 0 [] (some 0), iI 0, AVal.tt false, AVal.str (ByteArray.mk #[])]]] (iI 0) [AObj.rows false 1 (flM 1), AObj.rows true 11 [rM m0 m1 m2 m3 m4 m5 m6 (AVal.fsl nb 2 rs none) m8 m9 m10]], Dec.br false]) = .ok (FRes.mk (AVal.tuple [AVal.agg (rM m0 m1 m2 m3 m4 m5 m6 (AVal.fsl nb 2 rs none) m8 m9 m10), iI 0]) ([AObj.rows false 11 [(rM m0 m1 m2 m3 m4 m5 m6 (AVal.fsl nb 2 rs none) m8 m9 m10)], AObj.rows true 11 [(rM m0 m1 m2 m3 m4 m5 m6 (AVal.fsl nb 2 rs none) m8 m9 m10)], AObj.rows false 1 (flM 1)]) (tr 7 ++ ((false = false) :: ((Owed.use (owed Try.prog 0) 40 [2, 1] [AVal.str s, AVal.str (ByteArray.mk #[77]), AVal.slc false 2 1 0 11 (some 11)] [AObj.rows false 11 [[iI 0, iI 0, iI 0, iI 0, iI 0, iI 0, iI 0, AVal.fsl true 0 [] (some 0), iI 0, AVal.tt false, AVal.str (ByteArray.mk #[])]], AObj.rows false 11 [[iI 0, iI 0, iI 0, iI 0, iI 0, iI 0, iI 0, AVal.fsl true 0 [] (some 0), iI 0, AVal.tt false, AVal.str (ByteArray.mk #[])]], AObj.rows false 1 (flM 1)] [AVal.str s, AVal.str (ByteArray.mk #[77]), AVal.slc false 0 1 0 11 (some 11)] [AObj.rows false 1 (flM 1), AObj.rows false 11 [[iI 0, iI 0, iI 0, iI 0, iI 0, iI 0, iI 0, AVal.fsl true 0 [] (some 0), iI 0, AVal.tt false, AVal.str (ByteArray.mk #[])]]] (iI 0) [AObj.rows false 1 (flM 1), AObj.rows true 11 [(rM m0 m1 m2 m3 m4 m5 m6 (AVal.fsl nb 2 rs none) m8 m9 m10)]]) :: ((Owed.use (owed Try.prog 0) 47 [1] [AVal.ptr 1 11 0 0] [AObj.rows false 11 [[iI 0, iI 0, iI 0, iI 0, iI 0, iI 0, iI 0, AVal.fsl true 0 [] (some 0), iI 0, AVal.tt false, AVal.str (ByteArray.mk #[])]], AObj.rows false 11 [[iI 0, iI 0, iI 0, iI 0, iI 0, iI 0, iI 0, AVal.fsl true 0 [] (some 0), iI 0, AVal.tt false, AVal.str (ByteArray.mk #[])]]] [AVal.ptr 0 11 0 0] [AObj.rows false 11 [[iI 0, iI 0, iI 0, iI 0, iI 0, iI 0, iI 0, AVal.fsl true 0 [] (some 0), iI 0, AVal.tt false, AVal.str (ByteArray.mk #[])]]] (AVal.slc false 1 1 0 11 (some 11)) [AObj.rows false 11 [[iI 0, iI 0, iI 0, iI 0, iI 0, iI 0, iI 0, AVal.fsl true 0 [] (some 0), iI 0, AVal.tt false, AVal.str (ByteArray.mk #[])]], AObj.rows false 1 (flM 0)]) :: []))))) by kernel_rfl) (allP_of (trC 7 ⟨rfl, ⟨⟨h1, rfl, rfl, rfl⟩, ⟨⟨(@Go.L12.fldzM_1 (0)), rfl, rfl, rfl⟩, trivial⟩⟩⟩))).move ([]) (by kernel_rfl) (by kernel_rfl) (by kernel_rfl)

def FromM_T (m0 m1 m2 m3 m4 m5 m6 m8 : Int) (m9 : Bool) (m10 : ByteArray) (nb : Bool) (rs : List (List AVal)) (s : ByteArray) (Q : AVal → AState → Prop) : Prop := (FOk Try.prog 40 [AVal.str s, AVal.str (ByteArray.mk #[77]), AVal.slc false 0 1 0 11 (some 11)] [AObj.rows false 1 (flM 1), AObj.rows false 11 [[iI 0, iI 0, iI 0, iI 0, iI 0, iI 0, iI 0, AVal.fsl true 0 [] (some 0), iI 0, AVal.tt false, AVal.str (ByteArray.mk #[])]]] (iI 0) [AObj.rows false 1 (flM 1), AObj.rows true 11 [(rM m0 m1 m2 m3 m4 m5 m6 (AVal.fsl nb 2 rs none) m8 m9 m10)]]) ∧ Q (AVal.tuple [AVal.agg (rM m0 m1 m2 m3 m4 m5 m6 (AVal.fsl nb 2 rs none) m8 m9 m10), iI 0]) ([])
theorem FromM_wp (m0 m1 m2 m3 m4 m5 m6 m8 : Int) (m9 : Bool) (m10 : ByteArray) (nb : Bool) (rs : List (List AVal)) (s : ByteArray) {Q : AVal → AState → Prop} (h : FromM_T m0 m1 m2 m3 m4 m5 m6 m8 m9 m10 nb rs s Q) : ∃ r σ', FOk Try.prog 21 ([AVal.str s]) ([]) r σ' ∧ Q r σ' :=
  ⟨_, _, FromM_1 m0 m1 m2 m3 m4 m5 m6 m8 m9 m10 nb rs s (h.1), h.2⟩


theorem FromNM_1 (s : ByteArray)
    (h1 : FOk Try.prog 40 [AVal.str s, AVal.str (ByteArray.mk #[77]), AVal.slc false 0 1 0 11 (some 11)] [AObj.rows false 1 (flM 1), AObj.rows false 11 [[iI 0, iI 0, iI 0, iI 0, iI 0, iI 0, iI 0, AVal.fsl true 0 [] (some 0), iI 0, AVal.tt false, AVal.str (ByteArray.mk #[])]]] (iI 140) [AObj.dead, AObj.dead]) :
    FOk Try.prog 21 ([AVal.str s]) ([]) (AVal.tuple [AVal.agg (rM 0 0 0 0 0 0 0 (AVal.fsl true 2 [] none) 0 false (ByteArray.mk #[])), iI 140]) ([]) :=
  (evalF_ok followed Try.func21 (by kernel_rfl) (show evalF Try.prog Try.f21 ([AVal.str s]) ([]) ([Dec.use [1] [AVal.ptr 0 11 0 0] [AObj.rows false 11 [[iI 0, iI 0, iI 0, iI 0, iI 0, iI 0, iI 0, AVal.fsl true 0 [] (some 0), iI 0, AVal.tt false, AVal.str (ByteArray.mk #[])]]] (AVal.slc false 1 1 0 11 (some 11)) [AObj.rows false 11 [[iI 0, iI 0, iI 0, iI 0, iI 0, iI 0, iI 0, AVal.fsl true 0 [] (some 0), iI 0, AVal.tt false, AVal.str (ByteArray.mk #[])]], AObj.rows false 1 (flM 0)], Dec.use [2, 1] [AVal.str s, AVal.str (ByteArray.mk #[77]), AVal.slc false 0 1 0 11 (some 11)] [AObj.rows false 1 (flM 1), AObj.rows false 11 [[iI 0, iI 0, iI 0, iI 0, iI 0, iI 0, iI 0, AVal.fsl true 0 [] (some 0), iI 0, AVal.tt false, AVal.str (ByteArray.mk #[])]]] (iI 140) [AObj.dead, AObj.dead], Dec.br true]) = .ok (FRes.mk (AVal.tuple [AVal.agg (rM 0 0 0 0 0 0 0 (AVal.fsl true 2 [] none) 0 false (ByteArray.mk #[])), iI 140]) ([AObj.rows false 11 [[iI 0, iI 0, iI 0, iI 0, iI 0, iI 0, iI 0, AVal.fsl true 0 [] (some 0), iI 0, AVal.tt false, AVal.str (ByteArray.mk #[])]], AObj.dead, AObj.dead]) (tr 5 ++ ((Owed.use (owed Try.prog 0) 40 [2, 1] [AVal.str s, AVal.str (ByteArray.mk #[77]), AVal.slc false 2 1 0 11 (some 11)] [AObj.rows false 11 [[iI 0, iI 0, iI 0, iI 0, iI 0, iI 0, iI 0, AVal.fsl true 0 [] (some 0), iI 0, AVal.tt false, AVal.str (ByteArray.mk #[])]], AObj.rows false 11 [[iI 0, iI 0, iI 0, iI 0, iI 0, iI 0, iI 0, AVal.fsl true 0 [] (some 0), iI 0, AVal.tt false, AVal.str (ByteArray.mk #[])]], AObj.rows false 1 (flM 1)] [AVal.str s, AVal.str (ByteArray.mk #[77]), AVal.slc false 0 1 0 11 (some 11)] [AObj.rows false 1 (flM 1), AObj.rows false 11 [[iI 0, iI 0, iI 0, iI 0, iI 0, iI 0, iI 0, AVal.fsl true 0 [] (some 0), iI 0, AVal.tt false, AVal.str (ByteArray.mk #[])]]] (iI 140) [AObj.dead, AObj.dead]) :: ((Owed.use (owed Try.prog 0) 47 [1] [AVal.ptr 1 11 0 0] [AObj.rows false 11 [[iI 0, iI 0, iI 0, iI 0, iI 0, iI 0, iI 0, AVal.fsl true 0 [] (some 0), iI 0, AVal.tt false, AVal.str (ByteArray.mk #[])]], AObj.rows false 11 [[iI 0, iI 0, iI 0, iI 0, iI 0, iI 0, iI 0, AVal.fsl true 0 [] (some 0), iI 0, AVal.tt false, AVal.str (ByteArray.mk #[])]]] [AVal.ptr 0 11 0 0] [AObj.rows false 11 [[iI 0, iI 0, iI 0, iI 0, iI 0, iI 0, iI 0, AVal.fsl true 0 [] (some 0), iI 0, AVal.tt false, AVal.str (ByteArray.mk #[])]]] (AVal.slc false 1 1 0 11 (some 11)) [AObj.rows false 11 [[iI 0, iI 0, iI 0, iI 0, iI 0, iI 0, iI 0, AVal.fsl true 0 [] (some 0), iI 0, AVal.tt false, AVal.str (ByteArray.mk #[])]], AObj.rows false 1 (flM 0)]) :: [])))) by kernel_rfl) (allP_of (trC 5 ⟨⟨h1, rfl, rfl, rfl⟩, ⟨⟨(@Go.L12.fldzM_1 (0)), rfl, rfl, rfl⟩, trivial⟩⟩))).move ([]) (by kernel_rfl) (by kernel_rfl) (by kernel_rfl)

def FromNM_T (s : ByteArray) (Q : AVal → AState → Prop) : Prop := (FOk Try.prog 40 [AVal.str s, AVal.str (ByteArray.mk #[77]), AVal.slc false 0 1 0 11 (some 11)] [AObj.rows false 1 (flM 1), AObj.rows false 11 [[iI 0, iI 0, iI 0, iI 0, iI 0, iI 0, iI 0, AVal.fsl true 0 [] (some 0), iI 0, AVal.tt false, AVal.str (ByteArray.mk #[])]]] (iI 140) [AObj.dead, AObj.dead]) ∧ Q (AVal.tuple [AVal.agg (rM 0 0 0 0 0 0 0 (AVal.fsl true 2 [] none) 0 false (ByteArray.mk #[])), iI 140]) ([])
theorem FromNM_wp (s : ByteArray) {Q : AVal → AState → Prop} (h : FromNM_T s Q) : ∃ r σ', FOk Try.prog 21 ([AVal.str s]) ([]) r σ' ∧ Q r σ' :=
  ⟨_, _, FromNM_1 s (h.1), h.2⟩


end Go.L12
end

section
set_option linter.unusedVariables false
set_option linter.unusedSimpArgs false
set_option maxRecDepth 100000
namespace Go.L12
open Go Go.Abs Go.Proofs

def TM : List Nat := [100, 100, 100, 100, 100, 100, 100, 100, 101, 111, 104]
abbrev vsM (m0 m1 m2 m3 m4 m5 m6 m8 : Int) (m9 : Bool) (m10 : ByteArray) (v : AVal) : List AVal := [.int .i64 m0, .int .i64 m1, .int .i64 m2, .int .i64 m3, .int .i64 m4, .int .i64 m5, .int .i64 m6, .int .i64 m8, .bool m9, v, .str m10]
theorem unLM {ts : List Nat} {vs : List AVal} (h : allF (111 :: ts) vs) : ∃ rs vs', vs = listV rs :: vs' ∧ isL 111 rs ∧ allF ts vs' := by
  obtain ⟨v, vs', rfl, ⟨n, rfl, h1⟩, h2⟩ := unF h
  exact ⟨n, vs', rfl, h1, h2⟩
theorem typedM {vs : List AVal} (h : allF TM vs) : ∃ (m0 m1 m2 m3 m4 m5 m6 m8 : Int) (m9 : Bool) (m10 : ByteArray) (rs : List (List AVal)), isL 111 rs ∧ vs = (vsM m0 m1 m2 m3 m4 m5 m6 m8 m9 m10 (listV rs)) := by
  obtain ⟨m0, w0, e0, h0⟩ := unI h
  obtain ⟨m1, w1, e1, h1⟩ := unI h0
  obtain ⟨m2, w2, e2, h2⟩ := unI h1
  obtain ⟨m3, w3, e3, h3⟩ := unI h2
  obtain ⟨m4, w4, e4, h4⟩ := unI h3
  obtain ⟨m5, w5, e5, h5⟩ := unI h4
  obtain ⟨m6, w6, e6, h6⟩ := unI h5
  obtain ⟨m8, w7, e7, h7⟩ := unI h6
  obtain ⟨m9, w8, e8, h8⟩ := unB h7
  obtain ⟨rs, w9, e9, hr, h9⟩ := unLM h8
  obtain ⟨m10, w10, e10, h10⟩ := unS h9
  have e := unN h10
  subst e
  subst e10
  subst e9
  subst e8
  subst e7
  subst e6
  subst e5
  subst e4
  subst e3
  subst e2
  subst e1
  subst e0
  exact ⟨m0, m1, m2, m3, m4, m5, m6, m8, m9, m10, rs, hr, rfl⟩
def zeroM : List AVal := (rM 0 0 0 0 0 0 0 (.fsl true 0 [] (some 0)) 0 false ⟨#[]⟩)
def setM (i : Nat) (u : List AVal) (v : AVal) : List AVal := u.set (FM.getD i (0, 0, 0)).2.2 v
theorem seqG_M (s : ByteArray) : seqG gtM 11 0 zeroM s = (takeAll TM s).map fun y => (setAll setM 0 zeroM y.1, y.2) := by
  rw [seqG_all (fun i => (FM.getD i (0, 0, 0)).1) setM gtM (fun i u s => rfl)]
  rfl
theorem set_M (m0 m1 m2 m3 m4 m5 m6 m8 : Int) (m9 : Bool) (m10 : ByteArray) (v : AVal) : setAll setM 0 zeroM (vsM m0 m1 m2 m3 m4 m5 m6 m8 m9 m10 v) = (rM m0 m1 m2 m3 m4 m5 m6 v m8 m9 m10) := by kernel_rfl
theorem iv0M : ivM 0 zeroM := ⟨_, _, _, _, _, _, _, _, _, _, _, rfl, fun _ => rfl⟩
theorem preM {s s' : ByteArray} (h : lB s = UInt8.ofNat 77 :: lB s') : (lB (ByteArray.mk #[77]) <+: lB s) ∧ s.extract (ByteArray.mk #[77]).size s.size = s' := by
  constructor
  · exact ⟨lB s', h.symm⟩
  · have e := mk_of h
    unfold mk at e
    split at e
    · exact congrArg Prod.fst e
    · have := congrArg Prod.snd e; cases this
theorem fromM_pre {s : ByteArray} {r : AVal} {σ' : AState} (h : FOk Try.prog 40 [.str s, .str ⟨#[77]⟩, .slc false 0 1 0 11 none] [.rows false 1 (flM 1), .rows true 11 [(rM 0 0 0 0 0 0 0 (.fsl true 0 [] (some 0)) 0 false ⟨#[]⟩)]] r σ') : FOk Try.prog 40 [.str s, .str ⟨#[77]⟩, .slc false 0 1 0 11 (some 11)] [.rows false 1 (flM 1), .rows false 11 [[.int .i64 0, .int .i64 0, .int .i64 0, .int .i64 0, .int .i64 0, .int .i64 0, .int .i64 0, .fsl true 0 [] (some 0), .int .i64 0, .tt false, .str ⟨#[]⟩]]] r σ' := by
  have q : FOk Try.prog 40 [.str s, .str ⟨#[77]⟩, .slc false 0 1 0 11 none] [.rows false 1 (flM 1), .rows false 11 [[.int .i64 0, .int .i64 0, .int .i64 0, .int .i64 0, .int .i64 0, .int .i64 0, .int .i64 0, .fsl true 0 [] (some 0), .int .i64 0, .tt false, .str ⟨#[]⟩]]] r σ' := FOk.preObj 1 (.rows true 11 [(rM 0 0 0 0 0 0 0 (.fsl true 0 [] (some 0)) 0 false ⟨#[]⟩)]) h (by simp) rfl (fun F w ρ b h => ORel.row1 (xs := [.int .i64 0, .int .i64 0, .int .i64 0, .int .i64 0, .int .i64 0, .int .i64 0, .int .i64 0, .fsl true 0 [] (some 0), .int .i64 0, .tt false, .str ⟨#[]⟩]) ⟨Imp.refl _, Imp.refl _, Imp.refl _, Imp.refl _, Imp.refl _, Imp.refl _, Imp.refl _, Imp.refl _, Imp.refl _, Imp.ttb rfl, Imp.refl _, trivial⟩ (ORel.unpure h rfl))
  exact q.args ⟨Imp.refl _, Imp.refl _, Imp.slcCap _ _ _ _ _ _, trivial⟩
theorem fromM_is {s : ByteArray} (m0 m1 m2 m3 m4 m5 m6 m8 : Int) (m9 : Bool) (m10 : ByteArray) (rs : List (List AVal)) (h : Is 77 TM s (vsM m0 m1 m2 m3 m4 m5 m6 m8 m9 m10 (listV rs))) : FOk Try.prog 21 [.str s] [] (.tuple [.agg (rM m0 m1 m2 m3 m4 m5 m6 (listV rs) m8 m9 m10), .int .i64 0]) [] := by
  obtain ⟨s', h1, h2⟩ := h
  obtain ⟨p1, p2⟩ := preM h1
  refine FOk.wp (FromM_wp m0 m1 m2 m3 m4 m5 m6 m8 m9 m10 rs.isEmpty rs s ?_)
  unfold FromM_T
  have ht := takesM_ok zeroM iv0M s' ((rM m0 m1 m2 m3 m4 m5 m6 (listV rs) m8 m9 m10), ⟨#[]⟩) (by rw [seqG_M, h2]; exact congrArg (fun x => some (x, (⟨#[]⟩ : ByteArray))) (set_M m0 m1 m2 m3 m4 m5 m6 m8 m9 m10 (listV rs)))
  rw [← p2] at ht
  exact ⟨fromM_pre (fromM_ok (rM 0 0 0 0 0 0 0 (.fsl true 0 [] (some 0)) 0 false ⟨#[]⟩) (rM m0 m1 m2 m3 m4 m5 m6 (listV rs) m8 m9 m10) s ⟨#[77]⟩ p1 ht), rfl, rfl⟩
theorem fromM_none {s : ByteArray} (h : ∀ vs, ¬ Is 77 TM s vs) : FOk Try.prog 21 [.str s] [] (.tuple [.agg (rM 0 0 0 0 0 0 0 (.fsl true 2 [] none) 0 false ⟨#[]⟩), .int .i64 140]) [] := by
  refine FOk.wp (FromNM_wp s ?_)
  unfold FromNM_T
  refine ⟨fromM_pre ?_, rfl, rfl⟩
  by_cases hp : lB (ByteArray.mk #[77]) <+: lB s
  · obtain ⟨t, ht⟩ := hp
    have h1 : lB s = UInt8.ofNat 77 :: lB (bS t) := by rw [lB_bS]; exact ht.symm
    obtain ⟨p1, p2⟩ := preM h1
    cases hs : takeAll TM (bS t) with
    | none =>
      have hx := takesM_no zeroM iv0M (bS t) (by rw [seqG_M, hs]; rfl)
      rw [← p2] at hx
      exact fromM_no (rM 0 0 0 0 0 0 0 (.fsl true 0 [] (some 0)) 0 false ⟨#[]⟩) s ⟨#[77]⟩ p1 hx
    | some y =>
      have hx := takesM_ok zeroM iv0M (bS t) (setAll setM 0 zeroM y.1, y.2) (by rw [seqG_M, hs]; rfl)
      rw [← p2] at hx
      refine fromM_more (rM 0 0 0 0 0 0 0 (.fsl true 0 [] (some 0)) 0 false ⟨#[]⟩) (setAll setM 0 zeroM y.1) s ⟨#[77]⟩ y.2 p1 (fun h0 => h y.1 ⟨bS t, h1, ?_⟩) hx
      have : y.2 = ⟨#[]⟩ := lB_inj (List.eq_nil_of_length_eq_zero (by rw [lB_length]; exact h0))
      rw [hs, ← this]
  · exact fromM_mark (rM 0 0 0 0 0 0 0 (.fsl true 0 [] (some 0)) 0 false ⟨#[]⟩) s ⟨#[77]⟩ hp
end Go.L12
end

section
set_option linter.unusedVariables false
set_option maxRecDepth 100000
namespace Go.L12
open Go Go.Abs Go.Proofs
def rgtA (i : Int) : Regs := mkR 117 [(0, .ptr 0 1 0 0), (15, .slc false 1 1 0 5 none), (16, .int .i64 5), (17, .int .i64 i)]
abbrev hptA (u0 u1 : List AVal) (s : ByteArray) : AState := [.rows true 1 [[.str s]], .rows false 1 (flA 2 3), .rows true 2 [u0], .rows true 3 [u1]]
theorem tAI0_1 (u0 u1 : List AVal) (i : Int) (j : Nat) (s : ByteArray)
    (h1 : decide (j + 1 ≤ 2) = true)
    (h2 : tkOk s 1099511627776 = true)
    (h3 : asType Try.prog 20 [List.getD (List.getD (flA 2 3) (Int.toNat i) []) 0 AVal.any] = AVal.iface 100 (AVal.ptr 2 2 0 j))
    (h4 : decide (Int.toNat i < 5) = true)
    (h5 : decide (0 ≤ i ∧ i < (↑5 : Int)) = true)
    (h6 : decide (i < 5) = true) :
    TripN Try.prog 4 (loopNo Try.f60 0) (rgtA i) (hptA u0 u1 s) (AExit.normal) (mkR 117 [(0, AVal.ptr 0 1 0 0), (15, AVal.slc false 1 1 0 5 none), (16, iI 5), (17, iI (IntKind.wrap IntKind.i64 (i + 1)))]) ([AObj.rows true 1 [[AVal.str (tkR s)]], AObj.rows false 1 (flA 2 3), AObj.rows true 2 [setCells u0 j [iI (tkV s)]], AObj.rows true 3 [u1]]) :=
  evalT (st := St.mk (rgtA i) (hptA u0 u1 s) ([Dec.br true, Dec.rwl (AVal.iface 100 (AVal.ptr 2 2 0 j)), Dec.use [0] [AVal.ptr 0 1 0 0, iI 1099511627776] [AObj.rows true 1 [[AVal.str s]]] (iI (tkV s)) [AObj.rows true 1 [[AVal.str (tkR s)]]]]) []) (st' := St.mk (mkR 117 [(0, AVal.ptr 0 1 0 0), (5, AVal.iface 100 (AVal.ptr 2 2 0 j)), (6, AVal.ptr 2 2 0 j), (15, AVal.slc false 1 1 0 5 none), (16, iI 5), (17, iI (IntKind.wrap IntKind.i64 (i + 1))), (18, AVal.tt true), (19, AVal.ptr 1 1 (Int.toNat i) 0), (20, AVal.iface 100 (AVal.ptr 2 2 0 j)), (21, AVal.iface 100 (AVal.ptr 2 2 0 j)), (22, AVal.tuple [AVal.ptr 2 2 0 j, AVal.tt true]), (23, AVal.tt true), (24, AVal.ptr 2 2 0 j), (25, AVal.ptr 2 2 0 j), (26, AVal.ptr 0 1 0 0), (27, iI (tkV s)), (28, AVal.ptr 2 2 0 j), (116, iI (IntKind.wrap IntKind.i64 (i + 1)))]) ([AObj.rows true 1 [[AVal.str (tkR s)]], AObj.rows false 1 (flA 2 3), AObj.rows true 2 [setCells u0 j [iI (tkV s)]], AObj.rows true 3 [u1]]) ([]) (tr 1 ++ ((decide (j + 1 ≤ 2) = true) :: ((Owed.use (owed Try.prog 4) 66 [0] [AVal.ptr 0 1 0 0, iI 1099511627776] [AObj.rows true 1 [[AVal.str s]], AObj.rows false 1 (flA 2 3), AObj.rows true 2 [u0], AObj.rows true 3 [u1]] [AVal.ptr 0 1 0 0, iI 1099511627776] [AObj.rows true 1 [[AVal.str s]]] (iI (tkV s)) [AObj.rows true 1 [[AVal.str (tkR s)]]]) :: ((asType Try.prog 20 [List.getD (List.getD (flA 2 3) (Int.toNat i) []) 0 AVal.any] = AVal.iface 100 (AVal.ptr 2 2 0 j)) :: ((decide (Int.toNat i < 5) = true) :: (tr 1 ++ ((decide (0 ≤ i ∧ i < (↑5 : Int)) = true) :: ((decide (i < 5) = true) :: []))))))))) followed (by kernel_rfl) (allP_of (trC 1 ⟨h1, ⟨⟨(@Go.L12.taken_ok (s) (1099511627776) h2), rfl, rfl, rfl⟩, ⟨h3, ⟨h4, (trC 1 ⟨h5, ⟨h6, trivial⟩⟩)⟩⟩⟩⟩)) (keepM 117 [0, 15, 16, 17]) ([0, 1, 2, 3]) (by kernel_rfl) (by kernel_rfl) (by kernel_rfl)

theorem tAI0_2 (u0 u1 : List AVal) (i : Int) (j : Nat) (s : ByteArray)
    (h1 : tkOk s 1099511627776 = false)
    (h2 : asType Try.prog 20 [List.getD (List.getD (flA 2 3) (Int.toNat i) []) 0 AVal.any] = AVal.iface 100 (AVal.ptr 2 2 0 j))
    (h3 : decide (Int.toNat i < 5) = true)
    (h4 : decide (0 ≤ i ∧ i < (↑5 : Int)) = true)
    (h5 : decide (i < 5) = true) :
    TripN Try.prog 4 (loopNo Try.f60 0) (rgtA i) (hptA u0 u1 s) (AExit.pan 117) (mkR 117 [(0, AVal.ptr 0 1 0 0), (15, AVal.slc false 1 1 0 5 none), (16, iI 5), (17, iI i)]) ([AObj.dead, AObj.rows false 1 (flA 2 3), AObj.rows true 2 [u0], AObj.rows true 3 [u1]]) :=
  evalT (st := St.mk (rgtA i) (hptA u0 u1 s) ([Dec.br true, Dec.rwl (AVal.iface 100 (AVal.ptr 2 2 0 j)), Dec.use [0] [AVal.ptr 0 1 0 0, iI 1099511627776] [AObj.rows true 1 [[AVal.str s]]] (AVal.pan 117) [AObj.dead]]) []) (st' := St.mk (mkR 117 [(0, AVal.ptr 0 1 0 0), (5, AVal.iface 100 (AVal.ptr 2 2 0 j)), (6, AVal.ptr 2 2 0 j), (15, AVal.slc false 1 1 0 5 none), (16, iI 5), (17, iI i), (18, AVal.tt true), (19, AVal.ptr 1 1 (Int.toNat i) 0), (20, AVal.iface 100 (AVal.ptr 2 2 0 j)), (21, AVal.iface 100 (AVal.ptr 2 2 0 j)), (22, AVal.tuple [AVal.ptr 2 2 0 j, AVal.tt true]), (23, AVal.tt true), (24, AVal.ptr 2 2 0 j), (25, AVal.ptr 2 2 0 j), (26, AVal.ptr 0 1 0 0)]) ([AObj.dead, AObj.rows false 1 (flA 2 3), AObj.rows true 2 [u0], AObj.rows true 3 [u1]]) ([]) ((Owed.use (owed Try.prog 4) 66 [0] [AVal.ptr 0 1 0 0, iI 1099511627776] [AObj.rows true 1 [[AVal.str s]], AObj.rows false 1 (flA 2 3), AObj.rows true 2 [u0], AObj.rows true 3 [u1]] [AVal.ptr 0 1 0 0, iI 1099511627776] [AObj.rows true 1 [[AVal.str s]]] (AVal.pan 117) [AObj.dead]) :: ((asType Try.prog 20 [List.getD (List.getD (flA 2 3) (Int.toNat i) []) 0 AVal.any] = AVal.iface 100 (AVal.ptr 2 2 0 j)) :: ((decide (Int.toNat i < 5) = true) :: (tr 1 ++ ((decide (0 ≤ i ∧ i < (↑5 : Int)) = true) :: ((decide (i < 5) = true) :: []))))))) followed (by kernel_rfl) (allP_of ⟨⟨(@Go.L12.taken_no (s) (1099511627776) h1), rfl, rfl, rfl⟩, ⟨h2, ⟨h3, (trC 1 ⟨h4, ⟨h5, trivial⟩⟩)⟩⟩⟩) (keepM 117 [0, 15, 16, 17]) ([0, 1, 2, 3]) (by kernel_rfl) (by kernel_rfl) (by kernel_rfl)

def tAI0_T (u0 u1 : List AVal) (i : Int) (j : Nat) (s : ByteArray) (Q : AExit → Regs → AState → Prop) : Prop := (decide (i < 5) = true) ∧ (decide (0 ≤ i ∧ i < (↑5 : Int)) = true) ∧ (decide (Int.toNat i < 5) = true) ∧ (asType Try.prog 20 [List.getD (List.getD (flA 2 3) (Int.toNat i) []) 0 AVal.any] = AVal.iface 100 (AVal.ptr 2 2 0 j)) ∧ ((((tkOk s 1099511627776 = true)) → (decide (j + 1 ≤ 2) = true) ∧ Q (AExit.normal) (mkR 117 [(0, AVal.ptr 0 1 0 0), (15, AVal.slc false 1 1 0 5 none), (16, iI 5), (17, iI (IntKind.wrap IntKind.i64 (i + 1)))]) ([AObj.rows true 1 [[AVal.str (tkR s)]], AObj.rows false 1 (flA 2 3), AObj.rows true 2 [setCells u0 j [iI (tkV s)]], AObj.rows true 3 [u1]])) ∧ (((tkOk s 1099511627776 = false)) → Q (AExit.pan 117) (mkR 117 [(0, AVal.ptr 0 1 0 0), (15, AVal.slc false 1 1 0 5 none), (16, iI 5), (17, iI i)]) ([AObj.dead, AObj.rows false 1 (flA 2 3), AObj.rows true 2 [u0], AObj.rows true 3 [u1]])) ∧ (((tkOk s 1099511627776 = true)) ∨ ((tkOk s 1099511627776 = false))))
theorem tAI0_wp (u0 u1 : List AVal) (i : Int) (j : Nat) (s : ByteArray) {Q : AExit → Regs → AState → Prop} (h : tAI0_T u0 u1 i j s Q) : ∃ e rg' σ', TripN Try.prog 4 (loopNo Try.f60 0) (rgtA i) (hptA u0 u1 s) e rg' σ' ∧ Q e rg' σ' :=
  Or.elim h.2.2.2.2.2.2 (fun (c0 : (tkOk s 1099511627776 = true)) => ⟨_, _, _, tAI0_1 u0 u1 i j s ((h.2.2.2.2.1 c0).1) (c0) (h.2.2.2.1) (h.2.2.1) (h.2.1) (h.1), (h.2.2.2.2.1 c0).2⟩) (fun (c1 : (tkOk s 1099511627776 = false)) => ⟨_, _, _, tAI0_2 u0 u1 i j s (c1) (h.2.2.2.1) (h.2.2.1) (h.2.1) (h.1), (h.2.2.2.2.2.1 c1)⟩)


theorem tAE1_1 (u0 u1 : List AVal) (i : Int) (j : Nat) (s : ByteArray)
    (h1 : decide (j + 1 ≤ 3) = true)
    (h2 : tkOk s 1099511627776 = true)
    (h3 : asType Try.prog 20 [List.getD (List.getD (flA 2 3) (Int.toNat i) []) 0 AVal.any] = AVal.iface 102 (AVal.ptr 3 3 0 j))
    (h4 : decide (Int.toNat i < 5) = true)
    (h5 : decide (0 ≤ i ∧ i < (↑5 : Int)) = true)
    (h6 : decide (i < 5) = true) :
    TripN Try.prog 4 (loopNo Try.f60 0) (rgtA i) (hptA u0 u1 s) (AExit.normal) (mkR 117 [(0, AVal.ptr 0 1 0 0), (15, AVal.slc false 1 1 0 5 none), (16, iI 5), (17, iI (IntKind.wrap IntKind.i64 (i + 1)))]) ([AObj.rows true 1 [[AVal.str (tkR s)]], AObj.rows false 1 (flA 2 3), AObj.rows true 2 [u0], AObj.rows true 3 [setCells u1 j [iI (tkV s)]]]) :=
  evalT (st := St.mk (rgtA i) (hptA u0 u1 s) ([Dec.br true, Dec.rwl (AVal.iface 102 (AVal.ptr 3 3 0 j)), Dec.use [0] [AVal.ptr 0 1 0 0, iI 1099511627776] [AObj.rows true 1 [[AVal.str s]]] (iI (tkV s)) [AObj.rows true 1 [[AVal.str (tkR s)]]]]) []) (st' := St.mk (mkR 117 [(0, AVal.ptr 0 1 0 0), (5, AVal.iface 102 (AVal.ptr 3 3 0 j)), (7, AVal.ptr 3 3 0 j), (15, AVal.slc false 1 1 0 5 none), (16, iI 5), (17, iI (IntKind.wrap IntKind.i64 (i + 1))), (18, AVal.tt true), (19, AVal.ptr 1 1 (Int.toNat i) 0), (20, AVal.iface 102 (AVal.ptr 3 3 0 j)), (21, AVal.iface 102 (AVal.ptr 3 3 0 j)), (22, AVal.tuple [AVal.nilp, AVal.tt false]), (23, AVal.tt false), (24, AVal.nilp), (29, AVal.tuple [AVal.ptr 3 3 0 j, AVal.tt true]), (30, AVal.tt true), (31, AVal.ptr 3 3 0 j), (32, AVal.ptr 3 3 0 j), (33, AVal.ptr 0 1 0 0), (34, iI (tkV s)), (35, AVal.ptr 3 3 0 j), (116, iI (IntKind.wrap IntKind.i64 (i + 1)))]) ([AObj.rows true 1 [[AVal.str (tkR s)]], AObj.rows false 1 (flA 2 3), AObj.rows true 2 [u0], AObj.rows true 3 [setCells u1 j [iI (tkV s)]]]) ([]) (tr 1 ++ ((decide (j + 1 ≤ 3) = true) :: ((Owed.use (owed Try.prog 4) 66 [0] [AVal.ptr 0 1 0 0, iI 1099511627776] [AObj.rows true 1 [[AVal.str s]], AObj.rows false 1 (flA 2 3), AObj.rows true 2 [u0], AObj.rows true 3 [u1]] [AVal.ptr 0 1 0 0, iI 1099511627776] [AObj.rows true 1 [[AVal.str s]]] (iI (tkV s)) [AObj.rows true 1 [[AVal.str (tkR s)]]]) :: ((asType Try.prog 20 [List.getD (List.getD (flA 2 3) (Int.toNat i) []) 0 AVal.any] = AVal.iface 102 (AVal.ptr 3 3 0 j)) :: ((decide (Int.toNat i < 5) = true) :: (tr 1 ++ ((decide (0 ≤ i ∧ i < (↑5 : Int)) = true) :: ((decide (i < 5) = true) :: []))))))))) followed (by kernel_rfl) (allP_of (trC 1 ⟨h1, ⟨⟨(@Go.L12.taken_ok (s) (1099511627776) h2), rfl, rfl, rfl⟩, ⟨h3, ⟨h4, (trC 1 ⟨h5, ⟨h6, trivial⟩⟩)⟩⟩⟩⟩)) (keepM 117 [0, 15, 16, 17]) ([0, 1, 2, 3]) (by kernel_rfl) (by kernel_rfl) (by kernel_rfl)

theorem tAE1_2 (u0 u1 : List AVal) (i : Int) (j : Nat) (s : ByteArray)
    (h1 : tkOk s 1099511627776 = false)
    (h2 : asType Try.prog 20 [List.getD (List.getD (flA 2 3) (Int.toNat i) []) 0 AVal.any] = AVal.iface 102 (AVal.ptr 3 3 0 j))
    (h3 : decide (Int.toNat i < 5) = true)
    (h4 : decide (0 ≤ i ∧ i < (↑5 : Int)) = true)
    (h5 : decide (i < 5) = true) :
    TripN Try.prog 4 (loopNo Try.f60 0) (rgtA i) (hptA u0 u1 s) (AExit.pan 117) (mkR 117 [(0, AVal.ptr 0 1 0 0), (15, AVal.slc false 1 1 0 5 none), (16, iI 5), (17, iI i)]) ([AObj.dead, AObj.rows false 1 (flA 2 3), AObj.rows true 2 [u0], AObj.rows true 3 [u1]]) :=
  evalT (st := St.mk (rgtA i) (hptA u0 u1 s) ([Dec.br true, Dec.rwl (AVal.iface 102 (AVal.ptr 3 3 0 j)), Dec.use [0] [AVal.ptr 0 1 0 0, iI 1099511627776] [AObj.rows true 1 [[AVal.str s]]] (AVal.pan 117) [AObj.dead]]) []) (st' := St.mk (mkR 117 [(0, AVal.ptr 0 1 0 0), (5, AVal.iface 102 (AVal.ptr 3 3 0 j)), (7, AVal.ptr 3 3 0 j), (15, AVal.slc false 1 1 0 5 none), (16, iI 5), (17, iI i), (18, AVal.tt true), (19, AVal.ptr 1 1 (Int.toNat i) 0), (20, AVal.iface 102 (AVal.ptr 3 3 0 j)), (21, AVal.iface 102 (AVal.ptr 3 3 0 j)), (22, AVal.tuple [AVal.nilp, AVal.tt false]), (23, AVal.tt false), (24, AVal.nilp), (29, AVal.tuple [AVal.ptr 3 3 0 j, AVal.tt true]), (30, AVal.tt true), (31, AVal.ptr 3 3 0 j), (32, AVal.ptr 3 3 0 j), (33, AVal.ptr 0 1 0 0)]) ([AObj.dead, AObj.rows false 1 (flA 2 3), AObj.rows true 2 [u0], AObj.rows true 3 [u1]]) ([]) ((Owed.use (owed Try.prog 4) 66 [0] [AVal.ptr 0 1 0 0, iI 1099511627776] [AObj.rows true 1 [[AVal.str s]], AObj.rows false 1 (flA 2 3), AObj.rows true 2 [u0], AObj.rows true 3 [u1]] [AVal.ptr 0 1 0 0, iI 1099511627776] [AObj.rows true 1 [[AVal.str s]]] (AVal.pan 117) [AObj.dead]) :: ((asType Try.prog 20 [List.getD (List.getD (flA 2 3) (Int.toNat i) []) 0 AVal.any] = AVal.iface 102 (AVal.ptr 3 3 0 j)) :: ((decide (Int.toNat i < 5) = true) :: (tr 1 ++ ((decide (0 ≤ i ∧ i < (↑5 : Int)) = true) :: ((decide (i < 5) = true) :: []))))))) followed (by kernel_rfl) (allP_of ⟨⟨(@Go.L12.taken_no (s) (1099511627776) h1), rfl, rfl, rfl⟩, ⟨h2, ⟨h3, (trC 1 ⟨h4, ⟨h5, trivial⟩⟩)⟩⟩⟩) (keepM 117 [0, 15, 16, 17]) ([0, 1, 2, 3]) (by kernel_rfl) (by kernel_rfl) (by kernel_rfl)

def tAE1_T (u0 u1 : List AVal) (i : Int) (j : Nat) (s : ByteArray) (Q : AExit → Regs → AState → Prop) : Prop := (decide (i < 5) = true) ∧ (decide (0 ≤ i ∧ i < (↑5 : Int)) = true) ∧ (decide (Int.toNat i < 5) = true) ∧ (asType Try.prog 20 [List.getD (List.getD (flA 2 3) (Int.toNat i) []) 0 AVal.any] = AVal.iface 102 (AVal.ptr 3 3 0 j)) ∧ ((((tkOk s 1099511627776 = true)) → (decide (j + 1 ≤ 3) = true) ∧ Q (AExit.normal) (mkR 117 [(0, AVal.ptr 0 1 0 0), (15, AVal.slc false 1 1 0 5 none), (16, iI 5), (17, iI (IntKind.wrap IntKind.i64 (i + 1)))]) ([AObj.rows true 1 [[AVal.str (tkR s)]], AObj.rows false 1 (flA 2 3), AObj.rows true 2 [u0], AObj.rows true 3 [setCells u1 j [iI (tkV s)]]])) ∧ (((tkOk s 1099511627776 = false)) → Q (AExit.pan 117) (mkR 117 [(0, AVal.ptr 0 1 0 0), (15, AVal.slc false 1 1 0 5 none), (16, iI 5), (17, iI i)]) ([AObj.dead, AObj.rows false 1 (flA 2 3), AObj.rows true 2 [u0], AObj.rows true 3 [u1]])) ∧ (((tkOk s 1099511627776 = true)) ∨ ((tkOk s 1099511627776 = false))))
theorem tAE1_wp (u0 u1 : List AVal) (i : Int) (j : Nat) (s : ByteArray) {Q : AExit → Regs → AState → Prop} (h : tAE1_T u0 u1 i j s Q) : ∃ e rg' σ', TripN Try.prog 4 (loopNo Try.f60 0) (rgtA i) (hptA u0 u1 s) e rg' σ' ∧ Q e rg' σ' :=
  Or.elim h.2.2.2.2.2.2 (fun (c0 : (tkOk s 1099511627776 = true)) => ⟨_, _, _, tAE1_1 u0 u1 i j s ((h.2.2.2.2.1 c0).1) (c0) (h.2.2.2.1) (h.2.2.1) (h.2.1) (h.1), (h.2.2.2.2.1 c0).2⟩) (fun (c1 : (tkOk s 1099511627776 = false)) => ⟨_, _, _, tAE1_2 u0 u1 i j s (c1) (h.2.2.2.1) (h.2.2.1) (h.2.1) (h.1), (h.2.2.2.2.2.1 c1)⟩)


theorem tAI1_1 (u0 u1 : List AVal) (i : Int) (j : Nat) (s : ByteArray)
    (h1 : decide (j + 1 ≤ 3) = true)
    (h2 : tkOk s 1099511627776 = true)
    (h3 : asType Try.prog 20 [List.getD (List.getD (flA 2 3) (Int.toNat i) []) 0 AVal.any] = AVal.iface 100 (AVal.ptr 3 3 0 j))
    (h4 : decide (Int.toNat i < 5) = true)
    (h5 : decide (0 ≤ i ∧ i < (↑5 : Int)) = true)
    (h6 : decide (i < 5) = true) :
    TripN Try.prog 4 (loopNo Try.f60 0) (rgtA i) (hptA u0 u1 s) (AExit.normal) (mkR 117 [(0, AVal.ptr 0 1 0 0), (15, AVal.slc false 1 1 0 5 none), (16, iI 5), (17, iI (IntKind.wrap IntKind.i64 (i + 1)))]) ([AObj.rows true 1 [[AVal.str (tkR s)]], AObj.rows false 1 (flA 2 3), AObj.rows true 2 [u0], AObj.rows true 3 [setCells u1 j [iI (tkV s)]]]) :=
  evalT (st := St.mk (rgtA i) (hptA u0 u1 s) ([Dec.br true, Dec.rwl (AVal.iface 100 (AVal.ptr 3 3 0 j)), Dec.use [0] [AVal.ptr 0 1 0 0, iI 1099511627776] [AObj.rows true 1 [[AVal.str s]]] (iI (tkV s)) [AObj.rows true 1 [[AVal.str (tkR s)]]]]) []) (st' := St.mk (mkR 117 [(0, AVal.ptr 0 1 0 0), (5, AVal.iface 100 (AVal.ptr 3 3 0 j)), (6, AVal.ptr 3 3 0 j), (15, AVal.slc false 1 1 0 5 none), (16, iI 5), (17, iI (IntKind.wrap IntKind.i64 (i + 1))), (18, AVal.tt true), (19, AVal.ptr 1 1 (Int.toNat i) 0), (20, AVal.iface 100 (AVal.ptr 3 3 0 j)), (21, AVal.iface 100 (AVal.ptr 3 3 0 j)), (22, AVal.tuple [AVal.ptr 3 3 0 j, AVal.tt true]), (23, AVal.tt true), (24, AVal.ptr 3 3 0 j), (25, AVal.ptr 3 3 0 j), (26, AVal.ptr 0 1 0 0), (27, iI (tkV s)), (28, AVal.ptr 3 3 0 j), (116, iI (IntKind.wrap IntKind.i64 (i + 1)))]) ([AObj.rows true 1 [[AVal.str (tkR s)]], AObj.rows false 1 (flA 2 3), AObj.rows true 2 [u0], AObj.rows true 3 [setCells u1 j [iI (tkV s)]]]) ([]) (tr 1 ++ ((decide (j + 1 ≤ 3) = true) :: ((Owed.use (owed Try.prog 4) 66 [0] [AVal.ptr 0 1 0 0, iI 1099511627776] [AObj.rows true 1 [[AVal.str s]], AObj.rows false 1 (flA 2 3), AObj.rows true 2 [u0], AObj.rows true 3 [u1]] [AVal.ptr 0 1 0 0, iI 1099511627776] [AObj.rows true 1 [[AVal.str s]]] (iI (tkV s)) [AObj.rows true 1 [[AVal.str (tkR s)]]]) :: ((asType Try.prog 20 [List.getD (List.getD (flA 2 3) (Int.toNat i) []) 0 AVal.any] = AVal.iface 100 (AVal.ptr 3 3 0 j)) :: ((decide (Int.toNat i < 5) = true) :: (tr 1 ++ ((decide (0 ≤ i ∧ i < (↑5 : Int)) = true) :: ((decide (i < 5) = true) :: []))))))))) followed (by kernel_rfl) (allP_of (trC 1 ⟨h1, ⟨⟨(@Go.L12.taken_ok (s) (1099511627776) h2), rfl, rfl, rfl⟩, ⟨h3, ⟨h4, (trC 1 ⟨h5, ⟨h6, trivial⟩⟩)⟩⟩⟩⟩)) (keepM 117 [0, 15, 16, 17]) ([0, 1, 2, 3]) (by kernel_rfl) (by kernel_rfl) (by kernel_rfl)

theorem tAI1_2 (u0 u1 : List AVal) (i : Int) (j : Nat) (s : ByteArray)
    (h1 : tkOk s 1099511627776 = false)
    (h2 : asType Try.prog 20 [List.getD (List.getD (flA 2 3) (Int.toNat i) []) 0 AVal.any] = AVal.iface 100 (AVal.ptr 3 3 0 j))
    (h3 : decide (Int.toNat i < 5) = true)
    (h4 : decide (0 ≤ i ∧ i < (↑5 : Int)) = true)
    (h5 : decide (i < 5) = true) :
    TripN Try.prog 4 (loopNo Try.f60 0) (rgtA i) (hptA u0 u1 s) (AExit.pan 117) (mkR 117 [(0, AVal.ptr 0 1 0 0), (15, AVal.slc false 1 1 0 5 none), (16, iI 5), (17, iI i)]) ([AObj.dead, AObj.rows false 1 (flA 2 3), AObj.rows true 2 [u0], AObj.rows true 3 [u1]]) :=
  evalT (st := St.mk (rgtA i) (hptA u0 u1 s) ([Dec.br true, Dec.rwl (AVal.iface 100 (AVal.ptr 3 3 0 j)), Dec.use [0] [AVal.ptr 0 1 0 0, iI 1099511627776] [AObj.rows true 1 [[AVal.str s]]] (AVal.pan 117) [AObj.dead]]) []) (st' := St.mk (mkR 117 [(0, AVal.ptr 0 1 0 0), (5, AVal.iface 100 (AVal.ptr 3 3 0 j)), (6, AVal.ptr 3 3 0 j), (15, AVal.slc false 1 1 0 5 none), (16, iI 5), (17, iI i), (18, AVal.tt true), (19, AVal.ptr 1 1 (Int.toNat i) 0), (20, AVal.iface 100 (AVal.ptr 3 3 0 j)), (21, AVal.iface 100 (AVal.ptr 3 3 0 j)), (22, AVal.tuple [AVal.ptr 3 3 0 j, AVal.tt true]), (23, AVal.tt true), (24, AVal.ptr 3 3 0 j), (25, AVal.ptr 3 3 0 j), (26, AVal.ptr 0 1 0 0)]) ([AObj.dead, AObj.rows false 1 (flA 2 3), AObj.rows true 2 [u0], AObj.rows true 3 [u1]]) ([]) ((Owed.use (owed Try.prog 4) 66 [0] [AVal.ptr 0 1 0 0, iI 1099511627776] [AObj.rows true 1 [[AVal.str s]], AObj.rows false 1 (flA 2 3), AObj.rows true 2 [u0], AObj.rows true 3 [u1]] [AVal.ptr 0 1 0 0, iI 1099511627776] [AObj.rows true 1 [[AVal.str s]]] (AVal.pan 117) [AObj.dead]) :: ((asType Try.prog 20 [List.getD (List.getD (flA 2 3) (Int.toNat i) []) 0 AVal.any] = AVal.iface 100 (AVal.ptr 3 3 0 j)) :: ((decide (Int.toNat i < 5) = true) :: (tr 1 ++ ((decide (0 ≤ i ∧ i < (↑5 : Int)) = true) :: ((decide (i < 5) = true) :: []))))))) followed (by kernel_rfl) (allP_of ⟨⟨(@Go.L12.taken_no (s) (1099511627776) h1), rfl, rfl, rfl⟩, ⟨h2, ⟨h3, (trC 1 ⟨h4, ⟨h5, trivial⟩⟩)⟩⟩⟩) (keepM 117 [0, 15, 16, 17]) ([0, 1, 2, 3]) (by kernel_rfl) (by kernel_rfl) (by kernel_rfl)

def tAI1_T (u0 u1 : List AVal) (i : Int) (j : Nat) (s : ByteArray) (Q : AExit → Regs → AState → Prop) : Prop := (decide (i < 5) = true) ∧ (decide (0 ≤ i ∧ i < (↑5 : Int)) = true) ∧ (decide (Int.toNat i < 5) = true) ∧ (asType Try.prog 20 [List.getD (List.getD (flA 2 3) (Int.toNat i) []) 0 AVal.any] = AVal.iface 100 (AVal.ptr 3 3 0 j)) ∧ ((((tkOk s 1099511627776 = true)) → (decide (j + 1 ≤ 3) = true) ∧ Q (AExit.normal) (mkR 117 [(0, AVal.ptr 0 1 0 0), (15, AVal.slc false 1 1 0 5 none), (16, iI 5), (17, iI (IntKind.wrap IntKind.i64 (i + 1)))]) ([AObj.rows true 1 [[AVal.str (tkR s)]], AObj.rows false 1 (flA 2 3), AObj.rows true 2 [u0], AObj.rows true 3 [setCells u1 j [iI (tkV s)]]])) ∧ (((tkOk s 1099511627776 = false)) → Q (AExit.pan 117) (mkR 117 [(0, AVal.ptr 0 1 0 0), (15, AVal.slc false 1 1 0 5 none), (16, iI 5), (17, iI i)]) ([AObj.dead, AObj.rows false 1 (flA 2 3), AObj.rows true 2 [u0], AObj.rows true 3 [u1]])) ∧ (((tkOk s 1099511627776 = true)) ∨ ((tkOk s 1099511627776 = false))))
theorem tAI1_wp (u0 u1 : List AVal) (i : Int) (j : Nat) (s : ByteArray) {Q : AExit → Regs → AState → Prop} (h : tAI1_T u0 u1 i j s Q) : ∃ e rg' σ', TripN Try.prog 4 (loopNo Try.f60 0) (rgtA i) (hptA u0 u1 s) e rg' σ' ∧ Q e rg' σ' :=
  Or.elim h.2.2.2.2.2.2 (fun (c0 : (tkOk s 1099511627776 = true)) => ⟨_, _, _, tAI1_1 u0 u1 i j s ((h.2.2.2.2.1 c0).1) (c0) (h.2.2.2.1) (h.2.2.1) (h.2.1) (h.1), (h.2.2.2.2.1 c0).2⟩) (fun (c1 : (tkOk s 1099511627776 = false)) => ⟨_, _, _, tAI1_2 u0 u1 i j s (c1) (h.2.2.2.1) (h.2.2.1) (h.2.1) (h.1), (h.2.2.2.2.2.1 c1)⟩)


theorem tAX_1 (u0 u1 : List AVal) (i : Int) (s : ByteArray)
    (h1 : decide (i < 5) = false) :
    TripN Try.prog 4 (loopNo Try.f60 0) (rgtA i) (hptA u0 u1 s) (AExit.exit 0) (mkR 117 [(0, AVal.ptr 0 1 0 0), (15, AVal.slc false 1 1 0 5 none), (16, iI 5), (17, iI i)]) ([AObj.rows true 1 [[AVal.str s]], AObj.rows false 1 (flA 2 3), AObj.rows true 2 [u0], AObj.rows true 3 [u1]]) :=
  evalT (st := St.mk (rgtA i) (hptA u0 u1 s) ([Dec.br false]) []) (st' := St.mk (mkR 117 [(0, AVal.ptr 0 1 0 0), (15, AVal.slc false 1 1 0 5 none), (16, iI 5), (17, iI i), (18, AVal.tt false)]) ([AObj.rows true 1 [[AVal.str s]], AObj.rows false 1 (flA 2 3), AObj.rows true 2 [u0], AObj.rows true 3 [u1]]) ([]) ((decide (i < 5) = false) :: [])) followed (by kernel_rfl) (allP_of ⟨h1, trivial⟩) (keepM 117 [0, 15, 16, 17]) ([0, 1, 2, 3]) (by kernel_rfl) (by kernel_rfl) (by kernel_rfl)

def tAX_T (u0 u1 : List AVal) (i : Int) (s : ByteArray) (Q : AExit → Regs → AState → Prop) : Prop := (decide (i < 5) = false) ∧ Q (AExit.exit 0) (mkR 117 [(0, AVal.ptr 0 1 0 0), (15, AVal.slc false 1 1 0 5 none), (16, iI 5), (17, iI i)]) ([AObj.rows true 1 [[AVal.str s]], AObj.rows false 1 (flA 2 3), AObj.rows true 2 [u0], AObj.rows true 3 [u1]])
theorem tAX_wp (u0 u1 : List AVal) (i : Int) (s : ByteArray) {Q : AExit → Regs → AState → Prop} (h : tAX_T u0 u1 i s Q) : ∃ e rg' σ', TripN Try.prog 4 (loopNo Try.f60 0) (rgtA i) (hptA u0 u1 s) e rg' σ' ∧ Q e rg' σ' :=
  ⟨_, _, _, tAX_1 u0 u1 i s (h.1), h.2⟩


end Go.L12
end

section
set_option linter.unusedVariables false
set_option maxRecDepth 100000
namespace Go.L12
open Go Go.Abs Go.Proofs
def rgtAr (i len q : Int) : Regs := mkR 117 [(0, .ptr 0 1 0 0), (13, .ptr 3 3 0 2), (15, .slc false 1 1 0 5 none), (16, .int .i64 5), (17, .int .i64 i), (97, .int .i64 len), (98, .int .i64 q)]
abbrev hinA (a0 a1 b0 b1 : Int) (b : Bool) (kk : Nat) (rs : List (List AVal)) (s : ByteArray) : AState := [.rows true 1 [[.str s]], .rows false 1 (flA 2 3), .rows true 2 [rA0 a0 a1], .rows false 3 [rA1 b0 b1 (.slc b 4 2 0 kk none)], .rows true 2 rs]
theorem tAr_1 (a0 a1 b0 b1 : Int) (b : Bool) (kk : Nat) (rs : List (List AVal)) (i len q : Int) (s : ByteArray)
    (h1 : decide (List.length rs = kk) = true)
    (h2 : decide ((kk + 1) * 32 ≤ 140737488355328 ∧ kk + 1 ≤ 9223372036854775807) = true)
    (h3 : Option.isSome (takeR 112 s) = true)
    (h4 : decide (q < len) = true) :
    TripN Try.prog 4 (loopNo Try.f60 2) (rgtAr i len q) (hinA a0 a1 b0 b1 b kk rs s) (AExit.normal) (mkR 117 [(0, AVal.ptr 0 1 0 0), (13, AVal.ptr 3 3 0 2), (15, AVal.slc false 1 1 0 5 none), (16, iI 5), (17, iI i), (97, iI len), (98, iI (IntKind.wrap IntKind.i64 (q + 1)))]) ([AObj.rows true 1 [[AVal.str (Prod.snd (Option.getD (takeR 112 s) ([], ByteArray.mk #[])))]], AObj.rows false 1 (flA 2 3), AObj.rows true 2 [[iI a0, iI a1]], AObj.rows false 3 [[iI b0, iI b1, AVal.slc (b && false) 4 2 0 (kk + 1) none]], AObj.rows true 2 (rs ++ [[AVal.str (AVal.toStr (List.getD (Prod.fst (Option.getD (takeR 112 s) ([], ByteArray.mk #[]))) 0 AVal.any)), AVal.str (AVal.toStr (List.getD (Prod.fst (Option.getD (takeR 112 s) ([], ByteArray.mk #[]))) 1 AVal.any))]])]) :=
  evalT (st := St.mk (rgtAr i len q) (hinA a0 a1 b0 b1 b kk rs s) ([Dec.br true, Dec.use [0, 6, 5] [AVal.ptr 0 1 0 0, AVal.slc false 1 1 0 2 (some 2)] [AObj.rows true 1 [[AVal.str s]], AObj.rows false 1 [[AVal.iface 104 (AVal.ptr 2 2 0 0)], [AVal.iface 104 (AVal.ptr 2 2 0 1)]], AObj.rows true 2 [[AVal.str (ByteArray.mk #[]), AVal.str (ByteArray.mk #[])]]] (AVal.tuple []) [AObj.rows true 1 [[AVal.str (Prod.snd (Option.getD (takeR 112 s) ([], ByteArray.mk #[])))]], AObj.rows false 1 [[AVal.iface 104 (AVal.ptr 2 2 0 0)], [AVal.iface 104 (AVal.ptr 2 2 0 1)]], AObj.rows true 2 [[AVal.str (AVal.toStr (List.getD (Prod.fst (Option.getD (takeR 112 s) ([], ByteArray.mk #[]))) 0 AVal.any)), AVal.str (AVal.toStr (List.getD (Prod.fst (Option.getD (takeR 112 s) ([], ByteArray.mk #[]))) 1 AVal.any))]]]]) []) (st' := St.mk (mkR 117 [(0, AVal.ptr 0 1 0 0), (13, AVal.ptr 3 3 0 2), (14, AVal.ptr 5 2 0 0), (15, AVal.slc false 1 1 0 5 none), (16, iI 5), (17, iI i), (97, iI len), (98, iI (IntKind.wrap IntKind.i64 (q + 1))), (99, AVal.tt true), (100, AVal.ptr 0 1 0 0), (101, AVal.ptr 5 2 0 0), (102, AVal.iface 104 (AVal.ptr 5 2 0 0)), (103, AVal.ptr 5 2 0 1), (104, AVal.iface 104 (AVal.ptr 5 2 0 1)), (105, AVal.slc false 6 1 0 2 (some 2)), (106, AVal.tuple []), (107, AVal.ptr 3 3 0 2), (108, AVal.ptr 3 3 0 2), (109, AVal.ptr 3 3 0 2), (110, AVal.slc b 4 2 0 kk none), (111, AVal.agg [AVal.str (AVal.toStr (List.getD (Prod.fst (Option.getD (takeR 112 s) ([], ByteArray.mk #[]))) 0 AVal.any)), AVal.str (AVal.toStr (List.getD (Prod.fst (Option.getD (takeR 112 s) ([], ByteArray.mk #[]))) 1 AVal.any))]), (112, AVal.slc false 7 2 0 1 (some 1)), (113, AVal.slc (b && false) 8 2 0 (kk + 1) none), (114, AVal.ptr 3 3 0 2), (115, iI (IntKind.wrap IntKind.i64 (q + 1)))]) ([AObj.rows true 1 [[AVal.str (Prod.snd (Option.getD (takeR 112 s) ([], ByteArray.mk #[])))]], AObj.rows false 1 (flA 2 3), AObj.rows true 2 [[iI a0, iI a1]], AObj.rows false 3 [[iI b0, iI b1, AVal.slc (b && false) 8 2 0 (kk + 1) none]], AObj.dead, AObj.rows true 2 [[AVal.str (AVal.toStr (List.getD (Prod.fst (Option.getD (takeR 112 s) ([], ByteArray.mk #[]))) 0 AVal.any)), AVal.str (AVal.toStr (List.getD (Prod.fst (Option.getD (takeR 112 s) ([], ByteArray.mk #[]))) 1 AVal.any))]], AObj.rows false 1 [[AVal.iface 104 (AVal.ptr 5 2 0 0)], [AVal.iface 104 (AVal.ptr 5 2 0 1)]], AObj.rows true 2 [[AVal.str (AVal.toStr (List.getD (Prod.fst (Option.getD (takeR 112 s) ([], ByteArray.mk #[]))) 0 AVal.any)), AVal.str (AVal.toStr (List.getD (Prod.fst (Option.getD (takeR 112 s) ([], ByteArray.mk #[]))) 1 AVal.any))]], AObj.rows true 2 (rs ++ [[AVal.str (AVal.toStr (List.getD (Prod.fst (Option.getD (takeR 112 s) ([], ByteArray.mk #[]))) 0 AVal.any)), AVal.str (AVal.toStr (List.getD (Prod.fst (Option.getD (takeR 112 s) ([], ByteArray.mk #[]))) 1 AVal.any))]])]) ([]) (tr 9 ++ ((decide (List.length rs = kk) = true) :: ((decide ((kk + 1) * 32 ≤ 140737488355328 ∧ kk + 1 ≤ 9223372036854775807) = true) :: (tr 25 ++ ((Owed.use (owed Try.prog 4) 60 [0, 6, 5] [AVal.ptr 0 1 0 0, AVal.slc false 6 1 0 2 (some 2)] [AObj.rows true 1 [[AVal.str s]], AObj.rows false 1 (flA 2 3), AObj.rows true 2 [[iI a0, iI a1]], AObj.rows false 3 [[iI b0, iI b1, AVal.slc b 4 2 0 kk none]], AObj.rows true 2 rs, AObj.rows true 2 [[AVal.str (ByteArray.mk #[]), AVal.str (ByteArray.mk #[])]], AObj.rows false 1 [[AVal.iface 104 (AVal.ptr 5 2 0 0)], [AVal.iface 104 (AVal.ptr 5 2 0 1)]]] [AVal.ptr 0 1 0 0, AVal.slc false 1 1 0 2 (some 2)] [AObj.rows true 1 [[AVal.str s]], AObj.rows false 1 [[AVal.iface 104 (AVal.ptr 2 2 0 0)], [AVal.iface 104 (AVal.ptr 2 2 0 1)]], AObj.rows true 2 [[AVal.str (ByteArray.mk #[]), AVal.str (ByteArray.mk #[])]]] (AVal.tuple []) [AObj.rows true 1 [[AVal.str (Prod.snd (Option.getD (takeR 112 s) ([], ByteArray.mk #[])))]], AObj.rows false 1 [[AVal.iface 104 (AVal.ptr 2 2 0 0)], [AVal.iface 104 (AVal.ptr 2 2 0 1)]], AObj.rows true 2 [[AVal.str (AVal.toStr (List.getD (Prod.fst (Option.getD (takeR 112 s) ([], ByteArray.mk #[]))) 0 AVal.any)), AVal.str (AVal.toStr (List.getD (Prod.fst (Option.getD (takeR 112 s) ([], ByteArray.mk #[]))) 1 AVal.any))]]]) :: ((decide (q < len) = true) :: []))))))) followed (by kernel_rfl) (allP_of (trC 9 ⟨h1, ⟨h2, (trC 25 ⟨⟨(@Go.L12.takesP_ok (s) h3), rfl, rfl, rfl⟩, ⟨h4, trivial⟩⟩)⟩⟩)) (keepM 117 [0, 13, 15, 16, 17, 97, 98]) ([0, 1, 2, 3, 8]) (by kernel_rfl) (by kernel_rfl) (by kernel_rfl)

theorem tAr_2 (a0 a1 b0 b1 : Int) (b : Bool) (kk : Nat) (rs : List (List AVal)) (i len q : Int) (s : ByteArray)
    (h1 : Option.isSome (takeR 112 s) = false)
    (h2 : decide (q < len) = true) :
    TripN Try.prog 4 (loopNo Try.f60 2) (rgtAr i len q) (hinA a0 a1 b0 b1 b kk rs s) (AExit.pan 117) (mkR 117 [(0, AVal.ptr 0 1 0 0), (13, AVal.ptr 3 3 0 2), (15, AVal.slc false 1 1 0 5 none), (16, iI 5), (17, iI i), (97, iI len), (98, iI q)]) ([AObj.dead, AObj.rows false 1 (flA 2 3), AObj.rows true 2 [[iI a0, iI a1]], AObj.rows false 3 [[iI b0, iI b1, AVal.slc b 4 2 0 kk none]], AObj.rows true 2 rs]) :=
  evalT (st := St.mk (rgtAr i len q) (hinA a0 a1 b0 b1 b kk rs s) ([Dec.br true, Dec.use [0, 6, 5] [AVal.ptr 0 1 0 0, AVal.slc false 1 1 0 2 (some 2)] [AObj.rows true 1 [[AVal.str s]], AObj.rows false 1 [[AVal.iface 104 (AVal.ptr 2 2 0 0)], [AVal.iface 104 (AVal.ptr 2 2 0 1)]], AObj.rows true 2 [[AVal.str (ByteArray.mk #[]), AVal.str (ByteArray.mk #[])]]] (AVal.pan 117) [AObj.dead, AObj.dead, AObj.dead]]) []) (st' := St.mk (mkR 117 [(0, AVal.ptr 0 1 0 0), (13, AVal.ptr 3 3 0 2), (14, AVal.ptr 5 2 0 0), (15, AVal.slc false 1 1 0 5 none), (16, iI 5), (17, iI i), (97, iI len), (98, iI q), (99, AVal.tt true), (100, AVal.ptr 0 1 0 0), (101, AVal.ptr 5 2 0 0), (102, AVal.iface 104 (AVal.ptr 5 2 0 0)), (103, AVal.ptr 5 2 0 1), (104, AVal.iface 104 (AVal.ptr 5 2 0 1)), (105, AVal.slc false 6 1 0 2 (some 2))]) ([AObj.dead, AObj.rows false 1 (flA 2 3), AObj.rows true 2 [[iI a0, iI a1]], AObj.rows false 3 [[iI b0, iI b1, AVal.slc b 4 2 0 kk none]], AObj.rows true 2 rs, AObj.dead, AObj.dead]) ([]) ((Owed.use (owed Try.prog 4) 60 [0, 6, 5] [AVal.ptr 0 1 0 0, AVal.slc false 6 1 0 2 (some 2)] [AObj.rows true 1 [[AVal.str s]], AObj.rows false 1 (flA 2 3), AObj.rows true 2 [[iI a0, iI a1]], AObj.rows false 3 [[iI b0, iI b1, AVal.slc b 4 2 0 kk none]], AObj.rows true 2 rs, AObj.rows true 2 [[AVal.str (ByteArray.mk #[]), AVal.str (ByteArray.mk #[])]], AObj.rows false 1 [[AVal.iface 104 (AVal.ptr 5 2 0 0)], [AVal.iface 104 (AVal.ptr 5 2 0 1)]]] [AVal.ptr 0 1 0 0, AVal.slc false 1 1 0 2 (some 2)] [AObj.rows true 1 [[AVal.str s]], AObj.rows false 1 [[AVal.iface 104 (AVal.ptr 2 2 0 0)], [AVal.iface 104 (AVal.ptr 2 2 0 1)]], AObj.rows true 2 [[AVal.str (ByteArray.mk #[]), AVal.str (ByteArray.mk #[])]]] (AVal.pan 117) [AObj.dead, AObj.dead, AObj.dead]) :: ((decide (q < len) = true) :: []))) followed (by kernel_rfl) (allP_of ⟨⟨(@Go.L12.takesP_no (s) h1), rfl, rfl, rfl⟩, ⟨h2, trivial⟩⟩) (keepM 117 [0, 13, 15, 16, 17, 97, 98]) ([0, 1, 2, 3, 4]) (by kernel_rfl) (by kernel_rfl) (by kernel_rfl)

def tAr_T (a0 a1 b0 b1 : Int) (b : Bool) (kk : Nat) (rs : List (List AVal)) (i len q : Int) (s : ByteArray) (Q : AExit → Regs → AState → Prop) : Prop := (decide (q < len) = true) ∧ ((((Option.isSome (takeR 112 s) = true)) → (decide ((kk + 1) * 32 ≤ 140737488355328 ∧ kk + 1 ≤ 9223372036854775807) = true) ∧ (decide (List.length rs = kk) = true) ∧ Q (AExit.normal) (mkR 117 [(0, AVal.ptr 0 1 0 0), (13, AVal.ptr 3 3 0 2), (15, AVal.slc false 1 1 0 5 none), (16, iI 5), (17, iI i), (97, iI len), (98, iI (IntKind.wrap IntKind.i64 (q + 1)))]) ([AObj.rows true 1 [[AVal.str (Prod.snd (Option.getD (takeR 112 s) ([], ByteArray.mk #[])))]], AObj.rows false 1 (flA 2 3), AObj.rows true 2 [[iI a0, iI a1]], AObj.rows false 3 [[iI b0, iI b1, AVal.slc (b && false) 4 2 0 (kk + 1) none]], AObj.rows true 2 (rs ++ [[AVal.str (AVal.toStr (List.getD (Prod.fst (Option.getD (takeR 112 s) ([], ByteArray.mk #[]))) 0 AVal.any)), AVal.str (AVal.toStr (List.getD (Prod.fst (Option.getD (takeR 112 s) ([], ByteArray.mk #[]))) 1 AVal.any))]])])) ∧ (((Option.isSome (takeR 112 s) = false)) → Q (AExit.pan 117) (mkR 117 [(0, AVal.ptr 0 1 0 0), (13, AVal.ptr 3 3 0 2), (15, AVal.slc false 1 1 0 5 none), (16, iI 5), (17, iI i), (97, iI len), (98, iI q)]) ([AObj.dead, AObj.rows false 1 (flA 2 3), AObj.rows true 2 [[iI a0, iI a1]], AObj.rows false 3 [[iI b0, iI b1, AVal.slc b 4 2 0 kk none]], AObj.rows true 2 rs])) ∧ (((Option.isSome (takeR 112 s) = true)) ∨ ((Option.isSome (takeR 112 s) = false))))
theorem tAr_wp (a0 a1 b0 b1 : Int) (b : Bool) (kk : Nat) (rs : List (List AVal)) (i len q : Int) (s : ByteArray) {Q : AExit → Regs → AState → Prop} (h : tAr_T a0 a1 b0 b1 b kk rs i len q s Q) : ∃ e rg' σ', TripN Try.prog 4 (loopNo Try.f60 2) (rgtAr i len q) (hinA a0 a1 b0 b1 b kk rs s) e rg' σ' ∧ Q e rg' σ' :=
  Or.elim h.2.2.2 (fun (c0 : (Option.isSome (takeR 112 s) = true)) => ⟨_, _, _, tAr_1 a0 a1 b0 b1 b kk rs i len q s ((h.2.1 c0).2.1) ((h.2.1 c0).1) (c0) (h.1), (h.2.1 c0).2.2⟩) (fun (c1 : (Option.isSome (takeR 112 s) = false)) => ⟨_, _, _, tAr_2 a0 a1 b0 b1 b kk rs i len q s (c1) (h.1), (h.2.2.1 c1)⟩)


theorem tAx_1 (a0 a1 b0 b1 : Int) (b : Bool) (kk : Nat) (rs : List (List AVal)) (i len q : Int) (s : ByteArray)
    (h1 : decide (q < len) = false) :
    TripN Try.prog 4 (loopNo Try.f60 2) (rgtAr i len q) (hinA a0 a1 b0 b1 b kk rs s) (AExit.exit 5) (mkR 117 [(0, AVal.ptr 0 1 0 0), (13, AVal.ptr 3 3 0 2), (15, AVal.slc false 1 1 0 5 none), (16, iI 5), (17, iI i), (97, iI len), (98, iI q)]) ([AObj.rows true 1 [[AVal.str s]], AObj.rows false 1 (flA 2 3), AObj.rows true 2 [[iI a0, iI a1]], AObj.rows false 3 [[iI b0, iI b1, AVal.slc b 4 2 0 kk none]], AObj.rows true 2 rs]) :=
  evalT (st := St.mk (rgtAr i len q) (hinA a0 a1 b0 b1 b kk rs s) ([Dec.br false]) []) (st' := St.mk (mkR 117 [(0, AVal.ptr 0 1 0 0), (13, AVal.ptr 3 3 0 2), (15, AVal.slc false 1 1 0 5 none), (16, iI 5), (17, iI i), (97, iI len), (98, iI q), (99, AVal.tt false)]) ([AObj.rows true 1 [[AVal.str s]], AObj.rows false 1 (flA 2 3), AObj.rows true 2 [[iI a0, iI a1]], AObj.rows false 3 [[iI b0, iI b1, AVal.slc b 4 2 0 kk none]], AObj.rows true 2 rs]) ([]) ((decide (q < len) = false) :: [])) followed (by kernel_rfl) (allP_of ⟨h1, trivial⟩) (keepM 117 [0, 13, 15, 16, 17, 97, 98]) ([0, 1, 2, 3, 4]) (by kernel_rfl) (by kernel_rfl) (by kernel_rfl)

def tAx_T (a0 a1 b0 b1 : Int) (b : Bool) (kk : Nat) (rs : List (List AVal)) (i len q : Int) (s : ByteArray) (Q : AExit → Regs → AState → Prop) : Prop := (decide (q < len) = false) ∧ Q (AExit.exit 5) (mkR 117 [(0, AVal.ptr 0 1 0 0), (13, AVal.ptr 3 3 0 2), (15, AVal.slc false 1 1 0 5 none), (16, iI 5), (17, iI i), (97, iI len), (98, iI q)]) ([AObj.rows true 1 [[AVal.str s]], AObj.rows false 1 (flA 2 3), AObj.rows true 2 [[iI a0, iI a1]], AObj.rows false 3 [[iI b0, iI b1, AVal.slc b 4 2 0 kk none]], AObj.rows true 2 rs])
theorem tAx_wp (a0 a1 b0 b1 : Int) (b : Bool) (kk : Nat) (rs : List (List AVal)) (i len q : Int) (s : ByteArray) {Q : AExit → Regs → AState → Prop} (h : tAx_T a0 a1 b0 b1 b kk rs i len q s Q) : ∃ e rg' σ', TripN Try.prog 4 (loopNo Try.f60 2) (rgtAr i len q) (hinA a0 a1 b0 b1 b kk rs s) e rg' σ' ∧ Q e rg' σ' :=
  ⟨_, _, _, tAx_1 a0 a1 b0 b1 b kk rs i len q s (h.1), h.2⟩


end Go.L12
end

section
set_option linter.unusedVariables false
set_option linter.unusedSimpArgs false
set_option maxRecDepth 100000
namespace Go.L12
open Go Go.Abs Go.Proofs
theorem takeR_rowP {s : ByteArray} {y : List AVal × ByteArray} (h : takeR 112 s = some y) : y.1 = [.str (List.getD y.1 0 .any).toStr, .str (List.getD y.1 1 .any).toStr] := by
  rw [takeR_P] at h
  cases h1 : tS s with
  | none => rw [h1] at h; cases h
  | some x =>
    rw [h1] at h
    simp only [Option.map_some] at h
    cases h2 : tS x.2 with
    | none => rw [h2] at h; cases h
    | some z => rw [h2] at h; cases h; rfl

theorem tA_out (a0 a1 b0 b1 i : Int) (n : Nat) (s : ByteArray) {e : AExit} {rg' : Regs} {σ' : AState}
    (h : TripN Try.prog 4 (.loop (loopNo Try.f60 2)) (rgtAr i (n : Nat) 0) (hinA a0 a1 b0 b1 true 0 [] s) e rg' σ') :
    TripN Try.prog 4 (.loop (loopNo Try.f60 2)) (rgtAr i (n : Nat) 0) (hptA (rA0 a0 a1) (rA1 b0 b1 (.fsl true 0 [] (some 0))) s) e rg' σ' := by
  refine TripN.preObj 3 (.rows false 3 [(rA1 b0 b1 (.fsl true 0 [] (some 0)))]) ?_ (by simp) rfl (fun F w ρ b h => ORel.lead h)
  refine TripN.ext (S := [.rows true 1 [[.str s]], .rows false 1 (flA 2 3), .rows true 2 [rA0 a0 a1], .rows false 3 [(rA1 b0 b1 (.fsl true 0 [] (some 0)))], .rows true 2 []]) ?_ rfl
  refine TripN.weakCell (id := 3) (es' := 3) (rs := [(rA1 b0 b1 (.fsl true 0 [] (some 0)))]) (i := 0) (j := 2) (v' := (.slc true 4 2 0 0 none)) ?_ rfl (Imp.nilSlc _ _ _ _ _)
  exact h
theorem tA_list (a0 a1 b0 b1 i : Int) (n : Nat) (hn : n ≤ 64) (s : ByteArray) :
    (∀ x, seqG (tkG 112) n 0 [] s = some x → TripN Try.prog 4 (.loop (loopNo Try.f60 2)) (rgtAr i (n : Nat) 0) (hptA (rA0 a0 a1) (rA1 b0 b1 (.fsl true 0 [] (some 0))) s) (.exit 5) (rgtAr i (n : Nat) (n : Nat)) (hptA (rA0 a0 a1) (rA1 b0 b1 (listV x.1)) x.2)) ∧
    (seqG (tkG 112) n 0 [] s = none → TripN Try.prog 4 (.loop (loopNo Try.f60 2)) (rgtAr i (n : Nat) 0) (hptA (rA0 a0 a1) (rA1 b0 b1 (.fsl true 0 [] (some 0))) s) (.pan 117) (mkR 117 []) (List.replicate 4 .dead)) := by
  have key := takes_runG (fun rg => rg.length = 117) (P := Try.prog) (N := 4) (c := loopNo Try.f60 2) n (fun q => rgtAr i (n : Nat) (q : Nat)) (fun (u : List (List AVal)) s => hinA a0 a1 b0 b1 u.isEmpty u.length u s) (tkG 112) (fun q u => u.length = q) 5
    (fun u s _ => TripN.wp (tAx_wp a0 a1 b0 b1 u.isEmpty u.length u i (n : Nat) (n : Nat) s ⟨decide_eq_false (by omega), rfl, rfl, rfl⟩))
    (fun q hq u s hI => by
      have w1 : IntKind.wrap .i64 ((q : Int) + 1) = ((q + 1 : Nat) : Int) := by rw [wrapS (by omega) (by omega)]; omega
      have eg : tkG 112 q u s = (takeR 112 s).map fun y => (u ++ [y.1], y.2) := rfl
      cases ho : takeR 112 s with
      | some y =>
        refine ⟨fun x hx => ?_, fun h => (by rw [eg, ho] at h; cases h)⟩
        rw [eg, ho] at hx
        cases hx
        refine ⟨by simp [hI], TripN.wp (tAr_wp a0 a1 b0 b1 u.isEmpty u.length u i (n : Nat) (q : Nat) s ?_)⟩
        unfold tAr_T
        rw [w1, ho]
        simp only [Option.getD_some, Option.isSome_some]
        refine ⟨decide_eq_true (by omega), fun _ => ⟨decide_eq_true (by omega), (by first | exact decide_eq_true rfl | simp), by trivial, by first | rfl | trivial, ?_⟩, fun c => absurd c (by simp), .inl (by trivial)⟩
        rw [← takeR_rowP ho, Bool.and_false, List.length_append, show (u ++ [y.1]).isEmpty = false by cases u <;> rfl]
        rfl
      | none =>
        refine ⟨fun x hx => (by rw [eg, ho] at hx; cases hx), fun _ => TripN.wpG (tAr_wp a0 a1 b0 b1 u.isEmpty u.length u i (n : Nat) (q : Nat) s ?_)⟩
        unfold tAr_T
        rw [w1, ho]
        simp only [Option.isSome_none]
        exact ⟨decide_eq_true (by omega), fun c => absurd c (by simp), fun _ => ⟨by trivial, by kernel_rfl⟩, .inr (by trivial)⟩)
    n 0 (by omega) [] s rfl
  refine ⟨fun x hx => ?_, fun h => ?_⟩
  · have h1 := TripN.freezeCell (key.1 x hx).trip (id := 3) (id2 := 4) (j := 2) (es := 3) (es2 := 2) (off := 0) (len := x.1.length) (nl := x.1.isEmpty) (p := true) (cap := none) (row := (rA1 b0 b1 (.slc x.1.isEmpty 4 2 0 x.1.length none))) (rs := x.1) rfl rfl rfl (by decide) rfl (by omega) (fun q v hv hne => by
      match q, hv, hne with
      | 0, hv, hne => cases hv; rfl
      | 1, hv, hne => cases hv; rfl
      | 2, hv, hne => exact absurd rfl hne
      | q + 3, hv, hne => exact absurd hv (by simp))
    rw [List.drop_zero, List.take_length] at h1
    exact tA_out a0 a1 b0 b1 i n s (h1.post (List.replicate 117 true) (List.range 4) (by kernel_rfl) rfl (by kernel_rfl))
  · obtain ⟨rg', σ', hg, r⟩ := key.2 h
    have q := TripN.panAll (tA_out a0 a1 b0 b1 i n s r.trip)
    rw [hg] at q
    exact q
end Go.L12
end

section
set_option linter.unusedVariables false
set_option maxRecDepth 100000
namespace Go.L12
open Go Go.Abs Go.Proofs
theorem tAN_1 (a0 a1 b0 b1 : Int) (v : AVal) (s s2 : ByteArray)
    (h1 : TripN Try.prog 4 (Code.loop (loopNo Try.f60 2)) (mkR 117 [(0, AVal.ptr 0 1 0 0), (13, AVal.ptr 3 3 0 2), (15, AVal.slc false 1 1 0 5 none), (16, iI 5), (17, iI 4), (97, iI (tkV s)), (98, iI 0)]) [AObj.rows true 1 [[AVal.str (tkR s)]], AObj.rows false 1 (flA 2 3), AObj.rows true 2 [[iI a0, iI a1]], AObj.rows true 3 [[iI b0, iI b1, AVal.fsl true 0 [] (some 0)]]] (AExit.exit 5) (mkR 117 [(0, AVal.ptr 0 1 0 0), (13, AVal.ptr 3 3 0 2), (15, AVal.slc false 1 1 0 5 none), (16, iI 5), (17, iI 4), (97, iI (tkV s)), (98, iI (tkV s))]) [AObj.rows true 1 [[AVal.str s2]], AObj.rows false 1 (flA 2 3), AObj.rows true 2 [[iI a0, iI a1]], AObj.rows true 3 [[iI b0, iI b1, v]]])
    (h2 : tkOk s 64 = true) :
    TripN Try.prog 4 (loopNo Try.f60 0) (rgtA 4) (hptA (rA0 a0 a1) (rA1 b0 b1 (AVal.fsl true 0 [] (some 0))) s) (AExit.normal) (mkR 117 [(0, AVal.ptr 0 1 0 0), (15, AVal.slc false 1 1 0 5 none), (16, iI 5), (17, iI 5)]) ([AObj.rows true 1 [[AVal.str s2]], AObj.rows false 1 (flA 2 3), AObj.rows true 2 [[iI a0, iI a1]], AObj.rows true 3 [[iI b0, iI b1, v]]]) :=
  evalT (st := St.mk (rgtA 4) (hptA (rA0 a0 a1) (rA1 b0 b1 (AVal.fsl true 0 [] (some 0))) s) ([Dec.br true, Dec.use [0] [AVal.ptr 0 1 0 0, iI 64] [AObj.rows true 1 [[AVal.str s]]] (iI (tkV s)) [AObj.rows true 1 [[AVal.str (tkR s)]]], Dec.compact (keepM 117 [0, 13, 15, 16, 17, 97, 98]) [0, 1, 2, 3], Dec.loop (AExit.exit 5) (rgtAr 4 (tkV s) (tkV s)) (hptA (rA0 a0 a1) (rA1 b0 b1 v) s2)]) []) (st' := St.mk (mkR 117 [(0, AVal.ptr 0 1 0 0), (13, AVal.ptr 3 3 0 2), (15, AVal.slc false 1 1 0 5 none), (16, iI 5), (17, iI 5), (97, iI (tkV s)), (98, iI (tkV s)), (116, iI 5)]) ([AObj.rows true 1 [[AVal.str s2]], AObj.rows false 1 (flA 2 3), AObj.rows true 2 [[iI a0, iI a1]], AObj.rows true 3 [[iI b0, iI b1, v]]]) ([]) ((Owed.loop (owed Try.prog 4) (loopNo Try.f60 2) (mkR 117 [(0, AVal.ptr 0 1 0 0), (13, AVal.ptr 3 3 0 2), (15, AVal.slc false 1 1 0 5 none), (16, iI 5), (17, iI 4), (97, iI (tkV s)), (98, iI 0)]) [AObj.rows true 1 [[AVal.str (tkR s)]], AObj.rows false 1 (flA 2 3), AObj.rows true 2 [[iI a0, iI a1]], AObj.rows true 3 [[iI b0, iI b1, AVal.fsl true 0 [] (some 0)]]] (AExit.exit 5) (mkR 117 [(0, AVal.ptr 0 1 0 0), (13, AVal.ptr 3 3 0 2), (15, AVal.slc false 1 1 0 5 none), (16, iI 5), (17, iI 4), (97, iI (tkV s)), (98, iI (tkV s))]) [AObj.rows true 1 [[AVal.str s2]], AObj.rows false 1 (flA 2 3), AObj.rows true 2 [[iI a0, iI a1]], AObj.rows true 3 [[iI b0, iI b1, v]]]) :: ((Owed.use (owed Try.prog 4) 66 [0] [AVal.ptr 0 1 0 0, iI 64] [AObj.rows true 1 [[AVal.str s]], AObj.rows false 1 (flA 2 3), AObj.rows true 2 [[iI a0, iI a1]], AObj.rows true 3 [[iI b0, iI b1, AVal.fsl true 0 [] (some 0)]]] [AVal.ptr 0 1 0 0, iI 64] [AObj.rows true 1 [[AVal.str s]]] (iI (tkV s)) [AObj.rows true 1 [[AVal.str (tkR s)]]]) :: (tr 4 ++ [])))) followed (by kernel_rfl) (allP_of ⟨h1, ⟨⟨(@Go.L12.taken_ok (s) (64) h2), rfl, rfl, rfl⟩, (trC 4 trivial)⟩⟩) (keepM 117 [0, 15, 16, 17]) ([0, 1, 2, 3]) (by kernel_rfl) (by kernel_rfl) (by kernel_rfl)

theorem tAN_2 (a0 a1 b0 b1 : Int) (v : AVal) (s s2 : ByteArray)
    (h1 : tkOk s 64 = false) :
    TripN Try.prog 4 (loopNo Try.f60 0) (rgtA 4) (hptA (rA0 a0 a1) (rA1 b0 b1 (AVal.fsl true 0 [] (some 0))) s) (AExit.pan 117) (mkR 117 [(0, AVal.ptr 0 1 0 0), (15, AVal.slc false 1 1 0 5 none), (16, iI 5), (17, iI 4)]) ([AObj.dead, AObj.rows false 1 (flA 2 3), AObj.rows true 2 [[iI a0, iI a1]], AObj.rows true 3 [[iI b0, iI b1, AVal.fsl true 0 [] (some 0)]]]) :=
  evalT (st := St.mk (rgtA 4) (hptA (rA0 a0 a1) (rA1 b0 b1 (AVal.fsl true 0 [] (some 0))) s) ([Dec.br true, Dec.use [0] [AVal.ptr 0 1 0 0, iI 64] [AObj.rows true 1 [[AVal.str s]]] (AVal.pan 117) [AObj.dead]]) []) (st' := St.mk (mkR 117 [(0, AVal.ptr 0 1 0 0), (5, AVal.iface 112 (AVal.ptr 3 3 0 2)), (13, AVal.ptr 3 3 0 2), (15, AVal.slc false 1 1 0 5 none), (16, iI 5), (17, iI 4), (18, AVal.tt true), (19, AVal.ptr 1 1 4 0), (20, AVal.iface 112 (AVal.ptr 3 3 0 2)), (21, AVal.iface 112 (AVal.ptr 3 3 0 2)), (22, AVal.tuple [AVal.nilp, AVal.tt false]), (23, AVal.tt false), (24, AVal.nilp), (29, AVal.tuple [AVal.nilp, AVal.tt false]), (30, AVal.tt false), (31, AVal.nilp), (36, AVal.tuple [AVal.nilp, AVal.tt false]), (37, AVal.tt false), (38, AVal.nilp), (44, AVal.tuple [AVal.nilp, AVal.tt false]), (45, AVal.tt false), (46, AVal.nilp), (70, AVal.tuple [AVal.nilp, AVal.tt false]), (71, AVal.tt false), (72, AVal.nilp), (93, AVal.tuple [AVal.ptr 3 3 0 2, AVal.tt true]), (94, AVal.tt true), (95, AVal.ptr 3 3 0 2), (96, AVal.ptr 0 1 0 0)]) ([AObj.dead, AObj.rows false 1 (flA 2 3), AObj.rows true 2 [[iI a0, iI a1]], AObj.rows true 3 [[iI b0, iI b1, AVal.fsl true 0 [] (some 0)]]]) ([]) ((Owed.use (owed Try.prog 4) 66 [0] [AVal.ptr 0 1 0 0, iI 64] [AObj.rows true 1 [[AVal.str s]], AObj.rows false 1 (flA 2 3), AObj.rows true 2 [[iI a0, iI a1]], AObj.rows true 3 [[iI b0, iI b1, AVal.fsl true 0 [] (some 0)]]] [AVal.ptr 0 1 0 0, iI 64] [AObj.rows true 1 [[AVal.str s]]] (AVal.pan 117) [AObj.dead]) :: (tr 4 ++ []))) followed (by kernel_rfl) (allP_of ⟨⟨(@Go.L12.taken_no (s) (64) h1), rfl, rfl, rfl⟩, (trC 4 trivial)⟩) (keepM 117 [0, 15, 16, 17]) ([0, 1, 2, 3]) (by kernel_rfl) (by kernel_rfl) (by kernel_rfl)

def tAN_T (a0 a1 b0 b1 : Int) (v : AVal) (s s2 : ByteArray) (Q : AExit → Regs → AState → Prop) : Prop := ((((tkOk s 64 = true)) → (TripN Try.prog 4 (Code.loop (loopNo Try.f60 2)) (mkR 117 [(0, AVal.ptr 0 1 0 0), (13, AVal.ptr 3 3 0 2), (15, AVal.slc false 1 1 0 5 none), (16, iI 5), (17, iI 4), (97, iI (tkV s)), (98, iI 0)]) [AObj.rows true 1 [[AVal.str (tkR s)]], AObj.rows false 1 (flA 2 3), AObj.rows true 2 [[iI a0, iI a1]], AObj.rows true 3 [[iI b0, iI b1, AVal.fsl true 0 [] (some 0)]]] (AExit.exit 5) (mkR 117 [(0, AVal.ptr 0 1 0 0), (13, AVal.ptr 3 3 0 2), (15, AVal.slc false 1 1 0 5 none), (16, iI 5), (17, iI 4), (97, iI (tkV s)), (98, iI (tkV s))]) [AObj.rows true 1 [[AVal.str s2]], AObj.rows false 1 (flA 2 3), AObj.rows true 2 [[iI a0, iI a1]], AObj.rows true 3 [[iI b0, iI b1, v]]]) ∧ Q (AExit.normal) (mkR 117 [(0, AVal.ptr 0 1 0 0), (15, AVal.slc false 1 1 0 5 none), (16, iI 5), (17, iI 5)]) ([AObj.rows true 1 [[AVal.str s2]], AObj.rows false 1 (flA 2 3), AObj.rows true 2 [[iI a0, iI a1]], AObj.rows true 3 [[iI b0, iI b1, v]]])) ∧ (((tkOk s 64 = false)) → Q (AExit.pan 117) (mkR 117 [(0, AVal.ptr 0 1 0 0), (15, AVal.slc false 1 1 0 5 none), (16, iI 5), (17, iI 4)]) ([AObj.dead, AObj.rows false 1 (flA 2 3), AObj.rows true 2 [[iI a0, iI a1]], AObj.rows true 3 [[iI b0, iI b1, AVal.fsl true 0 [] (some 0)]]])) ∧ (((tkOk s 64 = true)) ∨ ((tkOk s 64 = false))))
theorem tAN_wp (a0 a1 b0 b1 : Int) (v : AVal) (s s2 : ByteArray) {Q : AExit → Regs → AState → Prop} (h : tAN_T a0 a1 b0 b1 v s s2 Q) : ∃ e rg' σ', TripN Try.prog 4 (loopNo Try.f60 0) (rgtA 4) (hptA (rA0 a0 a1) (rA1 b0 b1 (AVal.fsl true 0 [] (some 0))) s) e rg' σ' ∧ Q e rg' σ' :=
  Or.elim h.2.2 (fun (c0 : (tkOk s 64 = true)) => ⟨_, _, _, tAN_1 a0 a1 b0 b1 v s s2 ((h.1 c0).1) (c0), (h.1 c0).2⟩) (fun (c1 : (tkOk s 64 = false)) => ⟨_, _, _, tAN_2 a0 a1 b0 b1 v s s2 (c1), (h.2.1 c1)⟩)


theorem tANn_1 (a0 a1 b0 b1 : Int) (s : ByteArray)
    (h1 : TripN Try.prog 4 (Code.loop (loopNo Try.f60 2)) (mkR 117 [(0, AVal.ptr 0 1 0 0), (13, AVal.ptr 3 3 0 2), (15, AVal.slc false 1 1 0 5 none), (16, iI 5), (17, iI 4), (97, iI (tkV s)), (98, iI 0)]) [AObj.rows true 1 [[AVal.str (tkR s)]], AObj.rows false 1 (flA 2 3), AObj.rows true 2 [[iI a0, iI a1]], AObj.rows true 3 [[iI b0, iI b1, AVal.fsl true 0 [] (some 0)]]] (AExit.pan 117) (mkR 117 []) [AObj.dead, AObj.dead, AObj.dead, AObj.dead])
    (h2 : tkOk s 64 = true) :
    TripN Try.prog 4 (loopNo Try.f60 0) (rgtA 4) (hptA (rA0 a0 a1) (rA1 b0 b1 (AVal.fsl true 0 [] (some 0))) s) (AExit.pan 117) (mkR 117 []) ([AObj.dead, AObj.dead, AObj.dead, AObj.dead]) :=
  evalT (st := St.mk (rgtA 4) (hptA (rA0 a0 a1) (rA1 b0 b1 (AVal.fsl true 0 [] (some 0))) s) ([Dec.br true, Dec.use [0] [AVal.ptr 0 1 0 0, iI 64] [AObj.rows true 1 [[AVal.str s]]] (iI (tkV s)) [AObj.rows true 1 [[AVal.str (tkR s)]]], Dec.compact (keepM 117 [0, 13, 15, 16, 17, 97, 98]) [0, 1, 2, 3], Dec.loop (AExit.pan 117) (mkR 117 []) (List.replicate 4 AObj.dead)]) []) (st' := St.mk (mkR 117 []) ([AObj.dead, AObj.dead, AObj.dead, AObj.dead]) ([]) ((Owed.loop (owed Try.prog 4) (loopNo Try.f60 2) (mkR 117 [(0, AVal.ptr 0 1 0 0), (13, AVal.ptr 3 3 0 2), (15, AVal.slc false 1 1 0 5 none), (16, iI 5), (17, iI 4), (97, iI (tkV s)), (98, iI 0)]) [AObj.rows true 1 [[AVal.str (tkR s)]], AObj.rows false 1 (flA 2 3), AObj.rows true 2 [[iI a0, iI a1]], AObj.rows true 3 [[iI b0, iI b1, AVal.fsl true 0 [] (some 0)]]] (AExit.pan 117) (mkR 117 []) [AObj.dead, AObj.dead, AObj.dead, AObj.dead]) :: ((Owed.use (owed Try.prog 4) 66 [0] [AVal.ptr 0 1 0 0, iI 64] [AObj.rows true 1 [[AVal.str s]], AObj.rows false 1 (flA 2 3), AObj.rows true 2 [[iI a0, iI a1]], AObj.rows true 3 [[iI b0, iI b1, AVal.fsl true 0 [] (some 0)]]] [AVal.ptr 0 1 0 0, iI 64] [AObj.rows true 1 [[AVal.str s]]] (iI (tkV s)) [AObj.rows true 1 [[AVal.str (tkR s)]]]) :: (tr 4 ++ [])))) followed (by kernel_rfl) (allP_of ⟨h1, ⟨⟨(@Go.L12.taken_ok (s) (64) h2), rfl, rfl, rfl⟩, (trC 4 trivial)⟩⟩) (keepM 117 [0, 15, 16, 17]) ([0, 1, 2, 3]) (by kernel_rfl) (by kernel_rfl) (by kernel_rfl)

theorem tANn_2 (a0 a1 b0 b1 : Int) (s : ByteArray)
    (h1 : tkOk s 64 = false) :
    TripN Try.prog 4 (loopNo Try.f60 0) (rgtA 4) (hptA (rA0 a0 a1) (rA1 b0 b1 (AVal.fsl true 0 [] (some 0))) s) (AExit.pan 117) (mkR 117 [(0, AVal.ptr 0 1 0 0), (15, AVal.slc false 1 1 0 5 none), (16, iI 5), (17, iI 4)]) ([AObj.dead, AObj.rows false 1 (flA 2 3), AObj.rows true 2 [[iI a0, iI a1]], AObj.rows true 3 [[iI b0, iI b1, AVal.fsl true 0 [] (some 0)]]]) :=
  evalT (st := St.mk (rgtA 4) (hptA (rA0 a0 a1) (rA1 b0 b1 (AVal.fsl true 0 [] (some 0))) s) ([Dec.br true, Dec.use [0] [AVal.ptr 0 1 0 0, iI 64] [AObj.rows true 1 [[AVal.str s]]] (AVal.pan 117) [AObj.dead]]) []) (st' := St.mk (mkR 117 [(0, AVal.ptr 0 1 0 0), (5, AVal.iface 112 (AVal.ptr 3 3 0 2)), (13, AVal.ptr 3 3 0 2), (15, AVal.slc false 1 1 0 5 none), (16, iI 5), (17, iI 4), (18, AVal.tt true), (19, AVal.ptr 1 1 4 0), (20, AVal.iface 112 (AVal.ptr 3 3 0 2)), (21, AVal.iface 112 (AVal.ptr 3 3 0 2)), (22, AVal.tuple [AVal.nilp, AVal.tt false]), (23, AVal.tt false), (24, AVal.nilp), (29, AVal.tuple [AVal.nilp, AVal.tt false]), (30, AVal.tt false), (31, AVal.nilp), (36, AVal.tuple [AVal.nilp, AVal.tt false]), (37, AVal.tt false), (38, AVal.nilp), (44, AVal.tuple [AVal.nilp, AVal.tt false]), (45, AVal.tt false), (46, AVal.nilp), (70, AVal.tuple [AVal.nilp, AVal.tt false]), (71, AVal.tt false), (72, AVal.nilp), (93, AVal.tuple [AVal.ptr 3 3 0 2, AVal.tt true]), (94, AVal.tt true), (95, AVal.ptr 3 3 0 2), (96, AVal.ptr 0 1 0 0)]) ([AObj.dead, AObj.rows false 1 (flA 2 3), AObj.rows true 2 [[iI a0, iI a1]], AObj.rows true 3 [[iI b0, iI b1, AVal.fsl true 0 [] (some 0)]]]) ([]) ((Owed.use (owed Try.prog 4) 66 [0] [AVal.ptr 0 1 0 0, iI 64] [AObj.rows true 1 [[AVal.str s]], AObj.rows false 1 (flA 2 3), AObj.rows true 2 [[iI a0, iI a1]], AObj.rows true 3 [[iI b0, iI b1, AVal.fsl true 0 [] (some 0)]]] [AVal.ptr 0 1 0 0, iI 64] [AObj.rows true 1 [[AVal.str s]]] (AVal.pan 117) [AObj.dead]) :: (tr 4 ++ []))) followed (by kernel_rfl) (allP_of ⟨⟨(@Go.L12.taken_no (s) (64) h1), rfl, rfl, rfl⟩, (trC 4 trivial)⟩) (keepM 117 [0, 15, 16, 17]) ([0, 1, 2, 3]) (by kernel_rfl) (by kernel_rfl) (by kernel_rfl)

def tANn_T (a0 a1 b0 b1 : Int) (s : ByteArray) (Q : AExit → Regs → AState → Prop) : Prop := ((((tkOk s 64 = true)) → (TripN Try.prog 4 (Code.loop (loopNo Try.f60 2)) (mkR 117 [(0, AVal.ptr 0 1 0 0), (13, AVal.ptr 3 3 0 2), (15, AVal.slc false 1 1 0 5 none), (16, iI 5), (17, iI 4), (97, iI (tkV s)), (98, iI 0)]) [AObj.rows true 1 [[AVal.str (tkR s)]], AObj.rows false 1 (flA 2 3), AObj.rows true 2 [[iI a0, iI a1]], AObj.rows true 3 [[iI b0, iI b1, AVal.fsl true 0 [] (some 0)]]] (AExit.pan 117) (mkR 117 []) [AObj.dead, AObj.dead, AObj.dead, AObj.dead]) ∧ Q (AExit.pan 117) (mkR 117 []) ([AObj.dead, AObj.dead, AObj.dead, AObj.dead])) ∧ (((tkOk s 64 = false)) → Q (AExit.pan 117) (mkR 117 [(0, AVal.ptr 0 1 0 0), (15, AVal.slc false 1 1 0 5 none), (16, iI 5), (17, iI 4)]) ([AObj.dead, AObj.rows false 1 (flA 2 3), AObj.rows true 2 [[iI a0, iI a1]], AObj.rows true 3 [[iI b0, iI b1, AVal.fsl true 0 [] (some 0)]]])) ∧ (((tkOk s 64 = true)) ∨ ((tkOk s 64 = false))))
theorem tANn_wp (a0 a1 b0 b1 : Int) (s : ByteArray) {Q : AExit → Regs → AState → Prop} (h : tANn_T a0 a1 b0 b1 s Q) : ∃ e rg' σ', TripN Try.prog 4 (loopNo Try.f60 0) (rgtA 4) (hptA (rA0 a0 a1) (rA1 b0 b1 (AVal.fsl true 0 [] (some 0))) s) e rg' σ' ∧ Q e rg' σ' :=
  Or.elim h.2.2 (fun (c0 : (tkOk s 64 = true)) => ⟨_, _, _, tANn_1 a0 a1 b0 b1 s ((h.1 c0).1) (c0), (h.1 c0).2⟩) (fun (c1 : (tkOk s 64 = false)) => ⟨_, _, _, tANn_2 a0 a1 b0 b1 s (c1), (h.2.1 c1)⟩)


end Go.L12
end

section
set_option linter.unusedVariables false
set_option linter.unusedSimpArgs false
set_option maxRecDepth 100000
namespace Go.L12
open Go Go.Abs Go.Proofs
theorem tAN_r (a0 a1 b0 b1 : Int) (s : ByteArray) :
    (∀ x, tL 112 s = some x → TripN Try.prog 4 (loopNo Try.f60 0) (rgtA 4) (hptA (rA0 a0 a1) (rA1 b0 b1 (.fsl true 0 [] (some 0))) s) .normal (rgtA 5) (hptA (rA0 a0 a1) (rA1 b0 b1 (listV x.1)) x.2)) ∧
    (tL 112 s = none → ∃ rg' σ', TripN Try.prog 4 (loopNo Try.f60 0) (rgtA 4) (hptA (rA0 a0 a1) (rA1 b0 b1 (.fsl true 0 [] (some 0))) s) (.pan 117) rg' σ') := by
  have emx : ((mx 112 : Nat) : Int) = 64 := rfl
  unfold tL tI
  rw [emx]
  cases ho : tkOk s 64 with
  | true =>
    rw [if_pos rfl]
    have hv := (of_decide_eq_true ho).2
    have hv : tkV s ≤ 64 := hv
    have h0 := tkV0 s
    have en : (((tkV s).toNat : Nat) : Int) = tkV s := Int.toNat_of_nonneg h0
    obtain ⟨k1, k2⟩ := tA_list a0 a1 b0 b1 4 (tkV s).toNat (by omega) (tkR s)
    rw [en] at k1 k2
    dsimp only
    refine ⟨fun x hx => ?_, fun hx => ?_⟩
    · refine TripN.wp (tAN_wp a0 a1 b0 b1 (listV x.1) s x.2 ?_)
      unfold tAN_T
      exact ⟨fun _ => ⟨k1 x hx, by trivial, by trivial, by trivial⟩, fun c => absurd c (by rw [ho]; simp), .inl ho⟩
    · refine TripN.wpE (tANn_wp a0 a1 b0 b1 s ?_)
      unfold tANn_T
      exact ⟨fun _ => ⟨k2 hx, by trivial⟩, fun c => absurd c (by rw [ho]; simp), .inl ho⟩
  | false =>
    rw [if_neg (by simp)]
    refine ⟨fun x hx => (by cases hx), fun hx => ?_⟩
    refine TripN.wpE (tANn_wp a0 a1 b0 b1 s ?_)
    unfold tANn_T
    exact ⟨fun c => absurd c (by rw [ho]; simp), fun _ => by trivial, .inr ho⟩
end Go.L12
end

section
set_option linter.unusedVariables false
set_option linter.unusedSimpArgs false
set_option maxRecDepth 100000
namespace Go.L12
open Go Go.Abs Go.Proofs

def FA : List (Nat × Nat × Nat) := [(100, 0, 0), (100, 0, 1), (102, 1, 0), (100, 1, 1), (112, 1, 2)]
abbrev flAt : List (List AVal) := (flA 2 3)
def objA (u0 u1 : List AVal) (o : Nat) : List AVal := if o = 0 then u0 else u1
theorem tAI0_r (u0 u1 : List AVal) (i j : Nat) (hi : i < 5) (hfl : asType Try.prog 20 [List.getD (List.getD flAt i []) 0 .any] = .iface 100 (.ptr 2 2 0 j)) (hj : j + 1 ≤ 2) (s : ByteArray) :
    (∀ x, takeF 100 s = some x → TripN Try.prog 4 (loopNo Try.f60 0) (rgtA (i : Nat)) (hptA u0 u1 s) .normal (rgtA ((i + 1 : Nat) : Int)) (hptA (u0.set j x.1) u1 x.2)) ∧ (takeF 100 s = none → ∃ rg' σ', TripN Try.prog 4 (loopNo Try.f60 0) (rgtA (i : Nat)) (hptA u0 u1 s) (.pan 117) rg' σ') := by
  have w1 : IntKind.wrap .i64 ((i : Int) + 1) = ((i + 1 : Nat) : Int) := by rw [wrapS (by omega) (by omega)]; omega
  have h0 : 0 ≤ tkV s := Int.natCast_nonneg _
  have e : takeF 100 s = (tI 1099511627776 s).map fun x => (.int .i64 x.1, x.2) := rfl
  rw [e]
  unfold tI
  cases ho : tkOk s 1099511627776 with
  | true =>
    refine ⟨fun x hx => ?_, fun h => by cases h⟩
    cases hx
    refine TripN.wp (tAI0_wp u0 u1 i j s ?_)
    unfold tAI0_T
    rw [Int.toNat_natCast, w1]
    exact ⟨decide_eq_true (by omega), decide_eq_true (by omega), decide_eq_true (by omega), hfl, fun _ => ⟨decide_eq_true (by omega), rfl, rfl, rfl⟩, fun c => absurd c (by rw [ho]; simp), .inl ho⟩
  | false =>
    refine ⟨fun x hx => (by cases hx), fun h => TripN.wpE (tAI0_wp u0 u1 i j s ?_)⟩
    unfold tAI0_T
    rw [Int.toNat_natCast, w1]
    exact ⟨decide_eq_true (by omega), decide_eq_true (by omega), decide_eq_true (by omega), hfl, fun c => absurd c (by rw [ho]; simp), fun _ => rfl, .inr ho⟩

theorem tAE1_r (u0 u1 : List AVal) (i j : Nat) (hi : i < 5) (hfl : asType Try.prog 20 [List.getD (List.getD flAt i []) 0 .any] = .iface 102 (.ptr 3 3 0 j)) (hj : j + 1 ≤ 3) (s : ByteArray) :
    (∀ x, takeF 102 s = some x → TripN Try.prog 4 (loopNo Try.f60 0) (rgtA (i : Nat)) (hptA u0 u1 s) .normal (rgtA ((i + 1 : Nat) : Int)) (hptA u0 (u1.set j x.1) x.2)) ∧ (takeF 102 s = none → ∃ rg' σ', TripN Try.prog 4 (loopNo Try.f60 0) (rgtA (i : Nat)) (hptA u0 u1 s) (.pan 117) rg' σ') := by
  have w1 : IntKind.wrap .i64 ((i : Int) + 1) = ((i + 1 : Nat) : Int) := by rw [wrapS (by omega) (by omega)]; omega
  have h0 : 0 ≤ tkV s := Int.natCast_nonneg _
  have e : takeF 102 s = (tI 1099511627776 s).map fun x => (.int .i64 x.1, x.2) := rfl
  rw [e]
  unfold tI
  cases ho : tkOk s 1099511627776 with
  | true =>
    refine ⟨fun x hx => ?_, fun h => by cases h⟩
    cases hx
    refine TripN.wp (tAE1_wp u0 u1 i j s ?_)
    unfold tAE1_T
    rw [Int.toNat_natCast, w1]
    exact ⟨decide_eq_true (by omega), decide_eq_true (by omega), decide_eq_true (by omega), hfl, fun _ => ⟨decide_eq_true (by omega), rfl, rfl, rfl⟩, fun c => absurd c (by rw [ho]; simp), .inl ho⟩
  | false =>
    refine ⟨fun x hx => (by cases hx), fun h => TripN.wpE (tAE1_wp u0 u1 i j s ?_)⟩
    unfold tAE1_T
    rw [Int.toNat_natCast, w1]
    exact ⟨decide_eq_true (by omega), decide_eq_true (by omega), decide_eq_true (by omega), hfl, fun c => absurd c (by rw [ho]; simp), fun _ => rfl, .inr ho⟩

theorem tAI1_r (u0 u1 : List AVal) (i j : Nat) (hi : i < 5) (hfl : asType Try.prog 20 [List.getD (List.getD flAt i []) 0 .any] = .iface 100 (.ptr 3 3 0 j)) (hj : j + 1 ≤ 3) (s : ByteArray) :
    (∀ x, takeF 100 s = some x → TripN Try.prog 4 (loopNo Try.f60 0) (rgtA (i : Nat)) (hptA u0 u1 s) .normal (rgtA ((i + 1 : Nat) : Int)) (hptA u0 (u1.set j x.1) x.2)) ∧ (takeF 100 s = none → ∃ rg' σ', TripN Try.prog 4 (loopNo Try.f60 0) (rgtA (i : Nat)) (hptA u0 u1 s) (.pan 117) rg' σ') := by
  have w1 : IntKind.wrap .i64 ((i : Int) + 1) = ((i + 1 : Nat) : Int) := by rw [wrapS (by omega) (by omega)]; omega
  have h0 : 0 ≤ tkV s := Int.natCast_nonneg _
  have e : takeF 100 s = (tI 1099511627776 s).map fun x => (.int .i64 x.1, x.2) := rfl
  rw [e]
  unfold tI
  cases ho : tkOk s 1099511627776 with
  | true =>
    refine ⟨fun x hx => ?_, fun h => by cases h⟩
    cases hx
    refine TripN.wp (tAI1_wp u0 u1 i j s ?_)
    unfold tAI1_T
    rw [Int.toNat_natCast, w1]
    exact ⟨decide_eq_true (by omega), decide_eq_true (by omega), decide_eq_true (by omega), hfl, fun _ => ⟨decide_eq_true (by omega), rfl, rfl, rfl⟩, fun c => absurd c (by rw [ho]; simp), .inl ho⟩
  | false =>
    refine ⟨fun x hx => (by cases hx), fun h => TripN.wpE (tAI1_wp u0 u1 i j s ?_)⟩
    unfold tAI1_T
    rw [Int.toNat_natCast, w1]
    exact ⟨decide_eq_true (by omega), decide_eq_true (by omega), decide_eq_true (by omega), hfl, fun c => absurd c (by rw [ho]; simp), fun _ => rfl, .inr ho⟩

def gtA (i : Nat) (u : List AVal × List AVal) (s : ByteArray) : Option ((List AVal × List AVal) × ByteArray) := (takeF (FA.getD i (0, 0, 0)).1 s).map fun x => (if (FA.getD i (0, 0, 0)).2.1 = 0 then (u.1.set (FA.getD i (0, 0, 0)).2.2 x.1, u.2) else (u.1, u.2.set (FA.getD i (0, 0, 0)).2.2 x.1), x.2)
def ivA (i : Nat) (u : List AVal × List AVal) : Prop := ∃ (a0 a1 b0 b1 : Int) (v : AVal), u = (rA0 a0 a1, rA1 b0 b1 v) ∧ (i ≤ 4 → v = .fsl true 0 [] (some 0))
theorem takeF_I2 {t : Nat} (ht : t = 100 ∨ t = 102) {s : ByteArray} {x : AVal × ByteArray} (h : takeF t s = some x) : ∃ n, x.1 = .int .i64 n := by
  have h : (tI 1099511627776 s).map (fun x => ((AVal.int .i64 x.1), x.2)) = some x := by rcases ht with rfl | rfl <;> exact h
  rw [Option.map_eq_some_iff] at h
  obtain ⟨y, _, rfl⟩ := h
  exact ⟨_, rfl⟩
theorem tA_round : ∀ i, i < 5 → ∀ (u : List AVal × List AVal) (s : ByteArray), ivA i u → (∀ x, gtA i u s = some x → ivA (i + 1) x.1 ∧ TripN Try.prog 4 (loopNo Try.f60 0) (rgtA (i : Nat)) (hptA u.1 u.2 s) .normal (rgtA ((i + 1 : Nat) : Int)) (hptA x.1.1 x.1.2 x.2)) ∧ (gtA i u s = none → ∃ rg' σ', TripN Try.prog 4 (loopNo Try.f60 0) (rgtA (i : Nat)) (hptA u.1 u.2 s) (.pan 117) rg' σ')
  | 0, hi, u, s, hI => by
    obtain ⟨h1, h2⟩ := tAI0_r u.1 u.2 0 0 hi (by kernel_rfl) (by omega) s
    have e : gtA 0 u s = (takeF 100 s).map fun x => ((u.1.set 0 x.1, u.2), x.2) := rfl
    rw [e]
    cases ht : takeF 100 s with
    | none => exact ⟨fun x hx => (by cases hx), fun _ => h2 ht⟩
    | some x =>
      refine ⟨fun y hy => ?_, fun h => by cases h⟩
      cases hy
      refine ⟨?_, h1 x ht⟩
      obtain ⟨a0, a1, b0, b1, v, rfl, hv⟩ := hI
      obtain ⟨z, hz⟩ := takeF_I2 (.inl rfl) ht
      refine ⟨z, a1, b0, b1, v, ?_, fun h => hv (by omega)⟩
      dsimp only
      rw [hz]; rfl
  | 1, hi, u, s, hI => by
    obtain ⟨h1, h2⟩ := tAI0_r u.1 u.2 1 1 hi (by kernel_rfl) (by omega) s
    have e : gtA 1 u s = (takeF 100 s).map fun x => ((u.1.set 1 x.1, u.2), x.2) := rfl
    rw [e]
    cases ht : takeF 100 s with
    | none => exact ⟨fun x hx => (by cases hx), fun _ => h2 ht⟩
    | some x =>
      refine ⟨fun y hy => ?_, fun h => by cases h⟩
      cases hy
      refine ⟨?_, h1 x ht⟩
      obtain ⟨a0, a1, b0, b1, v, rfl, hv⟩ := hI
      obtain ⟨z, hz⟩ := takeF_I2 (.inl rfl) ht
      refine ⟨a0, z, b0, b1, v, ?_, fun h => hv (by omega)⟩
      dsimp only
      rw [hz]; rfl
  | 2, hi, u, s, hI => by
    obtain ⟨h1, h2⟩ := tAE1_r u.1 u.2 2 0 hi (by kernel_rfl) (by omega) s
    have e : gtA 2 u s = (takeF 102 s).map fun x => ((u.1, u.2.set 0 x.1), x.2) := rfl
    rw [e]
    cases ht : takeF 102 s with
    | none => exact ⟨fun x hx => (by cases hx), fun _ => h2 ht⟩
    | some x =>
      refine ⟨fun y hy => ?_, fun h => by cases h⟩
      cases hy
      refine ⟨?_, h1 x ht⟩
      obtain ⟨a0, a1, b0, b1, v, rfl, hv⟩ := hI
      obtain ⟨z, hz⟩ := takeF_I2 (.inr rfl) ht
      refine ⟨a0, a1, z, b1, v, ?_, fun h => hv (by omega)⟩
      dsimp only
      rw [hz]; rfl
  | 3, hi, u, s, hI => by
    obtain ⟨h1, h2⟩ := tAI1_r u.1 u.2 3 1 hi (by kernel_rfl) (by omega) s
    have e : gtA 3 u s = (takeF 100 s).map fun x => ((u.1, u.2.set 1 x.1), x.2) := rfl
    rw [e]
    cases ht : takeF 100 s with
    | none => exact ⟨fun x hx => (by cases hx), fun _ => h2 ht⟩
    | some x =>
      refine ⟨fun y hy => ?_, fun h => by cases h⟩
      cases hy
      refine ⟨?_, h1 x ht⟩
      obtain ⟨a0, a1, b0, b1, v, rfl, hv⟩ := hI
      obtain ⟨z, hz⟩ := takeF_I2 (.inl rfl) ht
      refine ⟨a0, a1, b0, z, v, ?_, fun h => hv (by omega)⟩
      dsimp only
      rw [hz]; rfl
  | 4, hi, u, s, hI => by
    obtain ⟨a0, a1, b0, b1, v, rfl, hv⟩ := hI
    obtain rfl := hv (by omega)
    obtain ⟨h1, h2⟩ := tAN_r a0 a1 b0 b1 s
    have e : gtA 4 (rA0 a0 a1, rA1 b0 b1 (.fsl true 0 [] (some 0))) s = (tL 112 s).map fun x => ((rA0 a0 a1, rA1 b0 b1 (listV x.1)), x.2) := by
      show Option.map _ ((tL 112 s).map _) = _
      cases tL 112 s <;> rfl
    rw [e]
    cases ht : tL 112 s with
    | none => exact ⟨fun x hx => (by cases hx), fun _ => h2 ht⟩
    | some x => exact ⟨fun y hy => (by cases hy; exact ⟨⟨_, _, _, _, _, rfl, fun h => absurd h (by omega)⟩, h1 x ht⟩), fun h => by cases h⟩
  | n + 5, hi, u, s, _ => absurd hi (by omega)
theorem takesA_ok (u : List AVal × List AVal) (hI : ivA 0 u) (s : ByteArray) (x : (List AVal × List AVal) × ByteArray) (hb : seqG gtA 5 0 u s = some x) :
    FOk Try.prog 60 [.ptr 0 1 0 0, .slc false 1 1 0 5 none] [.rows true 1 [[.str s]], .rows false 1 flAt, .rows true 2 [u.1], .rows true 3 [u.2]] (.tuple []) [.rows true 1 [[.str x.2]], .rows false 1 flAt, .rows true 2 [x.1.1], .rows true 3 [x.1.2]] := by
  have r := (takes_run (c := loopNo Try.f60 0) 5 (fun i => rgtA (i : Nat)) (fun (u : List AVal × List AVal) s => hptA u.1 u.2 s) gtA ivA 0 (fun u s _ => TripN.wp (tAX_wp u.1 u.2 5 s ⟨by kernel_rfl, rfl, rfl, rfl⟩)) tA_round 5 0 (by omega) u s hI).1 x hb
  exact (evalF_ok followed Try.func60 (by kernel_rfl) (show evalF Try.prog Try.f60 [.ptr 0 1 0 0, .slc false 1 1 0 5 none] [.rows true 1 [[.str s]], .rows false 1 flAt, .rows true 2 [u.1], .rows true 3 [u.2]] [Dec.compact (keepM 117 [0, 15, 16, 17]) [0, 1, 2, 3], Dec.loop (.exit 0) (rgtA 5) (hptA x.1.1 x.1.2 x.2)] = .ok (FRes.mk (.tuple []) (hptA x.1.1 x.1.2 x.2) [(owed Try.prog 4).loop (loopNo Try.f60 0) (rgtA 0) (hptA u.1 u.2 s) (.exit 0) (rgtA 5) (hptA x.1.1 x.1.2 x.2)]) by kernel_rfl) (allP_of ⟨r.trip, trivial⟩)).move [0, 1, 2, 3] (by kernel_rfl) (by kernel_rfl) (by kernel_rfl)
theorem takesA_no (u : List AVal × List AVal) (hI : ivA 0 u) (s : ByteArray) (hb : seqG gtA 5 0 u s = none) :
    FOk Try.prog 60 [.ptr 0 1 0 0, .slc false 1 1 0 5 none] [.rows true 1 [[.str s]], .rows false 1 flAt, .rows true 2 [u.1], .rows true 3 [u.2]] (.pan 117) [.dead, .dead, .dead, .dead] := by
  obtain ⟨rg', σ', r⟩ := (takes_run (c := loopNo Try.f60 0) 5 (fun i => rgtA (i : Nat)) (fun (u : List AVal × List AVal) s => hptA u.1 u.2 s) gtA ivA 0 (fun u s _ => TripN.wp (tAX_wp u.1 u.2 5 s ⟨by kernel_rfl, rfl, rfl, rfl⟩)) tA_round 5 0 (by omega) u s hI).2 hb
  exact (evalF_ok followed Try.func60 (by kernel_rfl) (show evalF Try.prog Try.f60 [.ptr 0 1 0 0, .slc false 1 1 0 5 none] [.rows true 1 [[.str s]], .rows false 1 flAt, .rows true 2 [u.1], .rows true 3 [u.2]] [Dec.compact (keepM 117 [0, 15, 16, 17]) [0, 1, 2, 3], Dec.loop (.pan 117) rg' σ'] = .ok (FRes.mk (.pan 117) σ' [(owed Try.prog 4).loop (loopNo Try.f60 0) (rgtA 0) (hptA u.1 u.2 s) (.pan 117) rg' σ']) by kernel_rfl) (allP_of ⟨r.trip, trivial⟩)).pan

end Go.L12
end

section
set_option linter.unusedVariables false
set_option maxRecDepth 100000
namespace Go.L12
open Go Go.Abs Go.Proofs

theorem rFA_1 (u0 u1 v0 v1 : List AVal) (m s s2 : ByteArray) (b : Bool)
    (h1 : FOk Try.prog 58 [AVal.bool (ByteArray.toList s2 == ByteArray.toList (ByteArray.mk #[]))] [] (AVal.tuple []) [])
    (h2 : FOk Try.prog 60 [AVal.ptr 0 1 0 0, AVal.slc false 1 1 0 5 none] [AObj.rows true 1 [[AVal.str (ByteArray.extract s (Int.toNat (↑(ByteArray.size m) : Int)) (Int.toNat (↑(ByteArray.size s) : Int)))]], AObj.rows false 1 (flA 2 3), AObj.rows true 2 [u0], AObj.rows true 3 [u1]] (AVal.tuple []) [AObj.rows true 1 [[AVal.str s2]], AObj.rows false 1 (flA 2 3), AObj.rows true 2 [v0], AObj.rows true 3 [v1]])
    (h3 : decide (0 ≤ (↑(ByteArray.size m) : Int) ∧ (↑(ByteArray.size m) : Int) ≤ (↑(ByteArray.size s) : Int) ∧ (↑(ByteArray.size s) : Int) ≤ (↑(ByteArray.size s) : Int)) = true)
    (h4 : FOk Try.prog 58 [AVal.bool true] [] (AVal.tuple []) [])
    (h5 : FOk Try.prog 59 [AVal.str s, AVal.str m] [] (AVal.bool true) []) :
    TripN Try.prog 5 (codeTail (codeTail (bodyOf Try.f40))) (mkR 20 [(1, AVal.str m), (2, AVal.slc false 0 1 0 5 none), (3, AVal.ptr 3 1 0 0), (6, AVal.ptr 4 1 0 0)]) ([AObj.rows false 1 (flA 1 2), AObj.rows true 2 [u0], AObj.rows true 3 [u1], AObj.rows true 1 [[AVal.str s]], AObj.rows true 1 [[iI 0]]]) (AExit.ret) (mkR 20 [(6, AVal.ptr 4 1 0 0)]) ([AObj.rows false 1 (flA 1 2), AObj.rows true 2 [v0], AObj.rows true 3 [v1], AObj.rows true 1 [[AVal.str s2]], AObj.rows true 1 [[iI 0]]]) :=
  evalT (st := St.mk (mkR 20 [(1, AVal.str m), (2, AVal.slc false 0 1 0 5 none), (3, AVal.ptr 3 1 0 0), (6, AVal.ptr 4 1 0 0)]) ([AObj.rows false 1 (flA 1 2), AObj.rows true 2 [u0], AObj.rows true 3 [u1], AObj.rows true 1 [[AVal.str s]], AObj.rows true 1 [[iI 0]]]) ([Dec.use [] [AVal.str s, AVal.str m] [] (AVal.bool true) [], Dec.use [] [AVal.bool true] [] (AVal.tuple []) [], Dec.use [3, 0, 1, 2] [AVal.ptr 0 1 0 0, AVal.slc false 1 1 0 5 none] [AObj.rows true 1 [[AVal.str (ByteArray.extract s (Int.toNat (↑(ByteArray.size m) : Int)) (Int.toNat (↑(ByteArray.size s) : Int)))]], AObj.rows false 1 (flA 2 3), AObj.rows true 2 [u0], AObj.rows true 3 [u1]] (AVal.tuple []) [AObj.rows true 1 [[AVal.str s2]], AObj.rows false 1 (flA 2 3), AObj.rows true 2 [v0], AObj.rows true 3 [v1]], Dec.use [] [AVal.bool (ByteArray.toList s2 == ByteArray.toList (ByteArray.mk #[]))] [] (AVal.tuple []) []]) []) (st' := St.mk (mkR 20 [(1, AVal.str m), (2, AVal.slc false 0 1 0 5 none), (3, AVal.ptr 3 1 0 0), (6, AVal.ptr 4 1 0 0), (7, AVal.str s), (8, AVal.str m), (9, AVal.bool true), (10, AVal.tuple []), (11, AVal.str s), (12, AVal.str m), (13, iI (↑(ByteArray.size m) : Int)), (14, AVal.str (ByteArray.extract s (Int.toNat (↑(ByteArray.size m) : Int)) (Int.toNat (↑(ByteArray.size s) : Int)))), (15, AVal.slc false 0 1 0 5 none), (16, AVal.tuple []), (17, AVal.str s2), (18, AVal.bool (ByteArray.toList s2 == ByteArray.toList (ByteArray.mk #[]))), (19, AVal.tuple [])]) ([AObj.rows false 1 (flA 1 2), AObj.rows true 2 [v0], AObj.rows true 3 [v1], AObj.rows true 1 [[AVal.str s2]], AObj.rows true 1 [[iI 0]]]) ([]) (tr 2 ++ ((Owed.use (owed Try.prog 5) 58 [] [AVal.bool (ByteArray.toList s2 == ByteArray.toList (ByteArray.mk #[]))] [AObj.rows false 1 (flA 1 2), AObj.rows true 2 [v0], AObj.rows true 3 [v1], AObj.rows true 1 [[AVal.str s2]], AObj.rows true 1 [[iI 0]]] [AVal.bool (ByteArray.toList s2 == ByteArray.toList (ByteArray.mk #[]))] [] (AVal.tuple []) []) :: (tr 3 ++ ((Owed.use (owed Try.prog 5) 60 [3, 0, 1, 2] [AVal.ptr 3 1 0 0, AVal.slc false 0 1 0 5 none] [AObj.rows false 1 (flA 1 2), AObj.rows true 2 [u0], AObj.rows true 3 [u1], AObj.rows true 1 [[AVal.str (ByteArray.extract s (Int.toNat (↑(ByteArray.size m) : Int)) (Int.toNat (↑(ByteArray.size s) : Int)))]], AObj.rows true 1 [[iI 0]]] [AVal.ptr 0 1 0 0, AVal.slc false 1 1 0 5 none] [AObj.rows true 1 [[AVal.str (ByteArray.extract s (Int.toNat (↑(ByteArray.size m) : Int)) (Int.toNat (↑(ByteArray.size s) : Int)))]], AObj.rows false 1 (flA 2 3), AObj.rows true 2 [u0], AObj.rows true 3 [u1]] (AVal.tuple []) [AObj.rows true 1 [[AVal.str s2]], AObj.rows false 1 (flA 2 3), AObj.rows true 2 [v0], AObj.rows true 3 [v1]]) :: (tr 2 ++ ((decide (0 ≤ (↑(ByteArray.size m) : Int) ∧ (↑(ByteArray.size m) : Int) ≤ (↑(ByteArray.size s) : Int) ∧ (↑(ByteArray.size s) : Int) ≤ (↑(ByteArray.size s) : Int)) = true) :: (tr 3 ++ ((Owed.use (owed Try.prog 5) 58 [] [AVal.bool true] [AObj.rows false 1 (flA 1 2), AObj.rows true 2 [u0], AObj.rows true 3 [u1], AObj.rows true 1 [[AVal.str s]], AObj.rows true 1 [[iI 0]]] [AVal.bool true] [] (AVal.tuple []) []) :: ((Owed.use (owed Try.prog 5) 59 [] [AVal.str s, AVal.str m] [AObj.rows false 1 (flA 1 2), AObj.rows true 2 [u0], AObj.rows true 3 [u1], AObj.rows true 1 [[AVal.str s]], AObj.rows true 1 [[iI 0]]] [AVal.str s, AVal.str m] [] (AVal.bool true) []) :: (tr 3 ++ []))))))))))) followed (by kernel_rfl) (allP_of (trC 2 ⟨⟨h1, rfl, rfl, rfl⟩, (trC 3 ⟨⟨h2, rfl, rfl, rfl⟩, (trC 2 ⟨h3, (trC 3 ⟨⟨h4, rfl, rfl, rfl⟩, ⟨⟨h5, rfl, rfl, rfl⟩, (trC 3 trivial)⟩⟩)⟩)⟩)⟩)) (keepM 20 [6]) ([0, 1, 2, 3, 4]) (by kernel_rfl) (by kernel_rfl) (by kernel_rfl)

theorem rFeA_1 (u0 u1 v0 v1 : List AVal) (m s s2 : ByteArray) (b : Bool)
    (h1 : FOk Try.prog 58 [AVal.bool (ByteArray.toList s2 == ByteArray.toList (ByteArray.mk #[]))] [] (AVal.pan 117) [])
    (h2 : FOk Try.prog 60 [AVal.ptr 0 1 0 0, AVal.slc false 1 1 0 5 none] [AObj.rows true 1 [[AVal.str (ByteArray.extract s (Int.toNat (↑(ByteArray.size m) : Int)) (Int.toNat (↑(ByteArray.size s) : Int)))]], AObj.rows false 1 (flA 2 3), AObj.rows true 2 [u0], AObj.rows true 3 [u1]] (AVal.tuple []) [AObj.rows true 1 [[AVal.str s2]], AObj.rows false 1 (flA 2 3), AObj.rows true 2 [v0], AObj.rows true 3 [v1]])
    (h3 : decide (0 ≤ (↑(ByteArray.size m) : Int) ∧ (↑(ByteArray.size m) : Int) ≤ (↑(ByteArray.size s) : Int) ∧ (↑(ByteArray.size s) : Int) ≤ (↑(ByteArray.size s) : Int)) = true)
    (h4 : FOk Try.prog 58 [AVal.bool true] [] (AVal.tuple []) [])
    (h5 : FOk Try.prog 59 [AVal.str s, AVal.str m] [] (AVal.bool true) []) :
    TripN Try.prog 5 (codeTail (codeTail (bodyOf Try.f40))) (mkR 20 [(1, AVal.str m), (2, AVal.slc false 0 1 0 5 none), (3, AVal.ptr 3 1 0 0), (6, AVal.ptr 4 1 0 0)]) ([AObj.rows false 1 (flA 1 2), AObj.rows true 2 [u0], AObj.rows true 3 [u1], AObj.rows true 1 [[AVal.str s]], AObj.rows true 1 [[iI 0]]]) (AExit.pan 117) (mkR 20 [(6, AVal.ptr 4 1 0 0)]) ([AObj.rows false 1 (flA 1 2), AObj.rows true 2 [v0], AObj.rows true 3 [v1], AObj.rows true 1 [[AVal.str s2]], AObj.rows true 1 [[iI 0]]]) :=
  evalT (st := St.mk (mkR 20 [(1, AVal.str m), (2, AVal.slc false 0 1 0 5 none), (3, AVal.ptr 3 1 0 0), (6, AVal.ptr 4 1 0 0)]) ([AObj.rows false 1 (flA 1 2), AObj.rows true 2 [u0], AObj.rows true 3 [u1], AObj.rows true 1 [[AVal.str s]], AObj.rows true 1 [[iI 0]]]) ([Dec.use [] [AVal.str s, AVal.str m] [] (AVal.bool true) [], Dec.use [] [AVal.bool true] [] (AVal.tuple []) [], Dec.use [3, 0, 1, 2] [AVal.ptr 0 1 0 0, AVal.slc false 1 1 0 5 none] [AObj.rows true 1 [[AVal.str (ByteArray.extract s (Int.toNat (↑(ByteArray.size m) : Int)) (Int.toNat (↑(ByteArray.size s) : Int)))]], AObj.rows false 1 (flA 2 3), AObj.rows true 2 [u0], AObj.rows true 3 [u1]] (AVal.tuple []) [AObj.rows true 1 [[AVal.str s2]], AObj.rows false 1 (flA 2 3), AObj.rows true 2 [v0], AObj.rows true 3 [v1]], Dec.use [] [AVal.bool (ByteArray.toList s2 == ByteArray.toList (ByteArray.mk #[]))] [] (AVal.pan 117) []]) []) (st' := St.mk (mkR 20 [(1, AVal.str m), (2, AVal.slc false 0 1 0 5 none), (3, AVal.ptr 3 1 0 0), (6, AVal.ptr 4 1 0 0), (7, AVal.str s), (8, AVal.str m), (9, AVal.bool true), (10, AVal.tuple []), (11, AVal.str s), (12, AVal.str m), (13, iI (↑(ByteArray.size m) : Int)), (14, AVal.str (ByteArray.extract s (Int.toNat (↑(ByteArray.size m) : Int)) (Int.toNat (↑(ByteArray.size s) : Int)))), (15, AVal.slc false 0 1 0 5 none), (16, AVal.tuple []), (17, AVal.str s2), (18, AVal.bool (ByteArray.toList s2 == ByteArray.toList (ByteArray.mk #[])))]) ([AObj.rows false 1 (flA 1 2), AObj.rows true 2 [v0], AObj.rows true 3 [v1], AObj.rows true 1 [[AVal.str s2]], AObj.rows true 1 [[iI 0]]]) ([]) ((Owed.use (owed Try.prog 5) 58 [] [AVal.bool (ByteArray.toList s2 == ByteArray.toList (ByteArray.mk #[]))] [AObj.rows false 1 (flA 1 2), AObj.rows true 2 [v0], AObj.rows true 3 [v1], AObj.rows true 1 [[AVal.str s2]], AObj.rows true 1 [[iI 0]]] [AVal.bool (ByteArray.toList s2 == ByteArray.toList (ByteArray.mk #[]))] [] (AVal.pan 117) []) :: (tr 3 ++ ((Owed.use (owed Try.prog 5) 60 [3, 0, 1, 2] [AVal.ptr 3 1 0 0, AVal.slc false 0 1 0 5 none] [AObj.rows false 1 (flA 1 2), AObj.rows true 2 [u0], AObj.rows true 3 [u1], AObj.rows true 1 [[AVal.str (ByteArray.extract s (Int.toNat (↑(ByteArray.size m) : Int)) (Int.toNat (↑(ByteArray.size s) : Int)))]], AObj.rows true 1 [[iI 0]]] [AVal.ptr 0 1 0 0, AVal.slc false 1 1 0 5 none] [AObj.rows true 1 [[AVal.str (ByteArray.extract s (Int.toNat (↑(ByteArray.size m) : Int)) (Int.toNat (↑(ByteArray.size s) : Int)))]], AObj.rows false 1 (flA 2 3), AObj.rows true 2 [u0], AObj.rows true 3 [u1]] (AVal.tuple []) [AObj.rows true 1 [[AVal.str s2]], AObj.rows false 1 (flA 2 3), AObj.rows true 2 [v0], AObj.rows true 3 [v1]]) :: (tr 2 ++ ((decide (0 ≤ (↑(ByteArray.size m) : Int) ∧ (↑(ByteArray.size m) : Int) ≤ (↑(ByteArray.size s) : Int) ∧ (↑(ByteArray.size s) : Int) ≤ (↑(ByteArray.size s) : Int)) = true) :: (tr 3 ++ ((Owed.use (owed Try.prog 5) 58 [] [AVal.bool true] [AObj.rows false 1 (flA 1 2), AObj.rows true 2 [u0], AObj.rows true 3 [u1], AObj.rows true 1 [[AVal.str s]], AObj.rows true 1 [[iI 0]]] [AVal.bool true] [] (AVal.tuple []) []) :: ((Owed.use (owed Try.prog 5) 59 [] [AVal.str s, AVal.str m] [AObj.rows false 1 (flA 1 2), AObj.rows true 2 [u0], AObj.rows true 3 [u1], AObj.rows true 1 [[AVal.str s]], AObj.rows true 1 [[iI 0]]] [AVal.str s, AVal.str m] [] (AVal.bool true) []) :: (tr 3 ++ [])))))))))) followed (by kernel_rfl) (allP_of ⟨⟨h1, rfl, rfl, rfl⟩, (trC 3 ⟨⟨h2, rfl, rfl, rfl⟩, (trC 2 ⟨h3, (trC 3 ⟨⟨h4, rfl, rfl, rfl⟩, ⟨⟨h5, rfl, rfl, rfl⟩, (trC 3 trivial)⟩⟩)⟩)⟩)⟩) (keepM 20 [6]) ([0, 1, 2, 3, 4]) (by kernel_rfl) (by kernel_rfl) (by kernel_rfl)

theorem rFnA_1 (u0 u1 : List AVal) (m s : ByteArray)
    (h1 : FOk Try.prog 60 [AVal.ptr 0 1 0 0, AVal.slc false 1 1 0 5 none] [AObj.rows true 1 [[AVal.str (ByteArray.extract s (Int.toNat (↑(ByteArray.size m) : Int)) (Int.toNat (↑(ByteArray.size s) : Int)))]], AObj.rows false 1 (flA 2 3), AObj.rows true 2 [u0], AObj.rows true 3 [u1]] (AVal.pan 117) [AObj.dead, AObj.dead, AObj.dead, AObj.dead])
    (h2 : decide (0 ≤ (↑(ByteArray.size m) : Int) ∧ (↑(ByteArray.size m) : Int) ≤ (↑(ByteArray.size s) : Int) ∧ (↑(ByteArray.size s) : Int) ≤ (↑(ByteArray.size s) : Int)) = true)
    (h3 : FOk Try.prog 58 [AVal.bool true] [] (AVal.tuple []) [])
    (h4 : FOk Try.prog 59 [AVal.str s, AVal.str m] [] (AVal.bool true) []) :
    TripN Try.prog 5 (codeTail (codeTail (bodyOf Try.f40))) (mkR 20 [(1, AVal.str m), (2, AVal.slc false 0 1 0 5 none), (3, AVal.ptr 3 1 0 0), (6, AVal.ptr 4 1 0 0)]) ([AObj.rows false 1 (flA 1 2), AObj.rows true 2 [u0], AObj.rows true 3 [u1], AObj.rows true 1 [[AVal.str s]], AObj.rows true 1 [[iI 0]]]) (AExit.pan 117) (mkR 20 [(6, AVal.ptr 4 1 0 0)]) ([AObj.dead, AObj.dead, AObj.dead, AObj.dead, AObj.rows true 1 [[iI 0]]]) :=
  evalT (st := St.mk (mkR 20 [(1, AVal.str m), (2, AVal.slc false 0 1 0 5 none), (3, AVal.ptr 3 1 0 0), (6, AVal.ptr 4 1 0 0)]) ([AObj.rows false 1 (flA 1 2), AObj.rows true 2 [u0], AObj.rows true 3 [u1], AObj.rows true 1 [[AVal.str s]], AObj.rows true 1 [[iI 0]]]) ([Dec.use [] [AVal.str s, AVal.str m] [] (AVal.bool true) [], Dec.use [] [AVal.bool true] [] (AVal.tuple []) [], Dec.use [3, 0, 1, 2] [AVal.ptr 0 1 0 0, AVal.slc false 1 1 0 5 none] [AObj.rows true 1 [[AVal.str (ByteArray.extract s (Int.toNat (↑(ByteArray.size m) : Int)) (Int.toNat (↑(ByteArray.size s) : Int)))]], AObj.rows false 1 (flA 2 3), AObj.rows true 2 [u0], AObj.rows true 3 [u1]] (AVal.pan 117) [AObj.dead, AObj.dead, AObj.dead, AObj.dead]]) []) (st' := St.mk (mkR 20 [(1, AVal.str m), (2, AVal.slc false 0 1 0 5 none), (3, AVal.ptr 3 1 0 0), (6, AVal.ptr 4 1 0 0), (7, AVal.str s), (8, AVal.str m), (9, AVal.bool true), (10, AVal.tuple []), (11, AVal.str s), (12, AVal.str m), (13, iI (↑(ByteArray.size m) : Int)), (14, AVal.str (ByteArray.extract s (Int.toNat (↑(ByteArray.size m) : Int)) (Int.toNat (↑(ByteArray.size s) : Int)))), (15, AVal.slc false 0 1 0 5 none)]) ([AObj.dead, AObj.dead, AObj.dead, AObj.dead, AObj.rows true 1 [[iI 0]]]) ([]) ((Owed.use (owed Try.prog 5) 60 [3, 0, 1, 2] [AVal.ptr 3 1 0 0, AVal.slc false 0 1 0 5 none] [AObj.rows false 1 (flA 1 2), AObj.rows true 2 [u0], AObj.rows true 3 [u1], AObj.rows true 1 [[AVal.str (ByteArray.extract s (Int.toNat (↑(ByteArray.size m) : Int)) (Int.toNat (↑(ByteArray.size s) : Int)))]], AObj.rows true 1 [[iI 0]]] [AVal.ptr 0 1 0 0, AVal.slc false 1 1 0 5 none] [AObj.rows true 1 [[AVal.str (ByteArray.extract s (Int.toNat (↑(ByteArray.size m) : Int)) (Int.toNat (↑(ByteArray.size s) : Int)))]], AObj.rows false 1 (flA 2 3), AObj.rows true 2 [u0], AObj.rows true 3 [u1]] (AVal.pan 117) [AObj.dead, AObj.dead, AObj.dead, AObj.dead]) :: (tr 2 ++ ((decide (0 ≤ (↑(ByteArray.size m) : Int) ∧ (↑(ByteArray.size m) : Int) ≤ (↑(ByteArray.size s) : Int) ∧ (↑(ByteArray.size s) : Int) ≤ (↑(ByteArray.size s) : Int)) = true) :: (tr 3 ++ ((Owed.use (owed Try.prog 5) 58 [] [AVal.bool true] [AObj.rows false 1 (flA 1 2), AObj.rows true 2 [u0], AObj.rows true 3 [u1], AObj.rows true 1 [[AVal.str s]], AObj.rows true 1 [[iI 0]]] [AVal.bool true] [] (AVal.tuple []) []) :: ((Owed.use (owed Try.prog 5) 59 [] [AVal.str s, AVal.str m] [AObj.rows false 1 (flA 1 2), AObj.rows true 2 [u0], AObj.rows true 3 [u1], AObj.rows true 1 [[AVal.str s]], AObj.rows true 1 [[iI 0]]] [AVal.str s, AVal.str m] [] (AVal.bool true) []) :: (tr 3 ++ [])))))))) followed (by kernel_rfl) (allP_of ⟨⟨h1, rfl, rfl, rfl⟩, (trC 2 ⟨h2, (trC 3 ⟨⟨h3, rfl, rfl, rfl⟩, ⟨⟨h4, rfl, rfl, rfl⟩, (trC 3 trivial)⟩⟩)⟩)⟩) (keepM 20 [6]) ([0, 1, 2, 3, 4]) (by kernel_rfl) (by kernel_rfl) (by kernel_rfl)

theorem rFpA_1 (u0 u1 : List AVal) (m s : ByteArray)
    (h1 : FOk Try.prog 58 [AVal.bool false] [] (AVal.pan 117) [])
    (h2 : FOk Try.prog 59 [AVal.str s, AVal.str m] [] (AVal.bool false) []) :
    TripN Try.prog 5 (codeTail (codeTail (bodyOf Try.f40))) (mkR 20 [(1, AVal.str m), (2, AVal.slc false 0 1 0 5 none), (3, AVal.ptr 3 1 0 0), (6, AVal.ptr 4 1 0 0)]) ([AObj.rows false 1 (flA 1 2), AObj.rows true 2 [u0], AObj.rows true 3 [u1], AObj.rows true 1 [[AVal.str s]], AObj.rows true 1 [[iI 0]]]) (AExit.pan 117) (mkR 20 [(6, AVal.ptr 4 1 0 0)]) ([AObj.rows false 1 (flA 1 2), AObj.rows true 2 [u0], AObj.rows true 3 [u1], AObj.rows true 1 [[AVal.str s]], AObj.rows true 1 [[iI 0]]]) :=
  evalT (st := St.mk (mkR 20 [(1, AVal.str m), (2, AVal.slc false 0 1 0 5 none), (3, AVal.ptr 3 1 0 0), (6, AVal.ptr 4 1 0 0)]) ([AObj.rows false 1 (flA 1 2), AObj.rows true 2 [u0], AObj.rows true 3 [u1], AObj.rows true 1 [[AVal.str s]], AObj.rows true 1 [[iI 0]]]) ([Dec.use [] [AVal.str s, AVal.str m] [] (AVal.bool false) [], Dec.use [] [AVal.bool false] [] (AVal.pan 117) []]) []) (st' := St.mk (mkR 20 [(1, AVal.str m), (2, AVal.slc false 0 1 0 5 none), (3, AVal.ptr 3 1 0 0), (6, AVal.ptr 4 1 0 0), (7, AVal.str s), (8, AVal.str m), (9, AVal.bool false)]) ([AObj.rows false 1 (flA 1 2), AObj.rows true 2 [u0], AObj.rows true 3 [u1], AObj.rows true 1 [[AVal.str s]], AObj.rows true 1 [[iI 0]]]) ([]) ((Owed.use (owed Try.prog 5) 58 [] [AVal.bool false] [AObj.rows false 1 (flA 1 2), AObj.rows true 2 [u0], AObj.rows true 3 [u1], AObj.rows true 1 [[AVal.str s]], AObj.rows true 1 [[iI 0]]] [AVal.bool false] [] (AVal.pan 117) []) :: ((Owed.use (owed Try.prog 5) 59 [] [AVal.str s, AVal.str m] [AObj.rows false 1 (flA 1 2), AObj.rows true 2 [u0], AObj.rows true 3 [u1], AObj.rows true 1 [[AVal.str s]], AObj.rows true 1 [[iI 0]]] [AVal.str s, AVal.str m] [] (AVal.bool false) []) :: (tr 3 ++ [])))) followed (by kernel_rfl) (allP_of ⟨⟨h1, rfl, rfl, rfl⟩, ⟨⟨h2, rfl, rfl, rfl⟩, (trC 3 trivial)⟩⟩) (keepM 20 [6]) ([0, 1, 2, 3, 4]) (by kernel_rfl) (by kernel_rfl) (by kernel_rfl)

theorem bFA_1 (v0 v1 : List AVal) (s2 : ByteArray) :
    TripN Try.prog 5 (codeTail (bodyOf Try.f57)) (catchRegs 16 4 140 7 AVal.nili) ([AObj.rows false 1 (flA 1 2), AObj.rows true 2 [v0], AObj.rows true 3 [v1], AObj.rows true 1 [[AVal.str s2]], AObj.rows true 1 [[iI 0]]]) (AExit.normal) (mkR 16 []) ([AObj.rows false 1 (flA 1 2), AObj.rows true 2 [v0], AObj.rows true 3 [v1], AObj.rows true 1 [[AVal.str s2]], AObj.rows true 1 [[iI 0]]]) :=
  evalT (st := St.mk (catchRegs 16 4 140 7 AVal.nili) ([AObj.rows false 1 (flA 1 2), AObj.rows true 2 [v0], AObj.rows true 3 [v1], AObj.rows true 1 [[AVal.str s2]], AObj.rows true 1 [[iI 0]]]) ([Dec.br true]) []) (st' := St.mk (mkR 16 [(0, AVal.ptr 4 1 0 0), (1, iI 140), (2, AVal.tuple []), (3, AVal.tuple []), (4, AVal.nili), (5, AVal.tuple []), (6, AVal.tuple []), (7, AVal.nili), (8, AVal.tuple []), (9, AVal.tt true), (10, AVal.tuple []), (11, AVal.tuple []), (12, AVal.tuple []), (13, AVal.tuple []), (14, AVal.tuple []), (15, AVal.tuple [])]) ([AObj.rows false 1 (flA 1 2), AObj.rows true 2 [v0], AObj.rows true 3 [v1], AObj.rows true 1 [[AVal.str s2]], AObj.rows true 1 [[iI 0]]]) ([]) (tr 1 ++ [])) followed (by kernel_rfl) (allP_of (trC 1 trivial)) (keepM 16 []) ([0, 1, 2, 3, 4]) (by kernel_rfl) (by kernel_rfl) (by kernel_rfl)

theorem bFnA_1 (x : Nat) :
    TripN Try.prog 5 (codeTail (bodyOf Try.f57)) (catchRegs 16 4 140 7 (AVal.iface 117 (AVal.agg []))) ([AObj.dead, AObj.dead, AObj.dead, AObj.dead, AObj.rows true 1 [[iI 0]]]) (AExit.normal) (mkR 16 []) ([AObj.dead, AObj.dead, AObj.dead, AObj.dead, AObj.rows true 1 [[iI 140]]]) :=
  evalT (st := St.mk (catchRegs 16 4 140 7 (AVal.iface 117 (AVal.agg []))) ([AObj.dead, AObj.dead, AObj.dead, AObj.dead, AObj.rows true 1 [[iI 0]]]) ([Dec.br false]) []) (st' := St.mk (mkR 16 [(0, AVal.ptr 4 1 0 0), (1, iI 140), (2, AVal.tuple []), (3, AVal.tuple []), (4, AVal.tuple []), (5, AVal.ptr 5 0 0 0), (6, AVal.tuple []), (7, AVal.iface 117 (AVal.agg [])), (8, AVal.tuple []), (9, AVal.tt false), (10, AVal.tuple [AVal.agg [], AVal.tt true]), (11, AVal.tt true), (12, AVal.agg []), (13, AVal.ptr 4 1 0 0), (14, iI 140), (15, AVal.ptr 4 1 0 0)]) ([AObj.dead, AObj.dead, AObj.dead, AObj.dead, AObj.rows true 1 [[iI 140]], AObj.rows true 0 [[]]]) ([]) (tr 4 ++ ((false = false) :: []))) followed (by kernel_rfl) (allP_of (trC 4 ⟨rfl, trivial⟩)) (keepM 16 []) ([0, 1, 2, 3, 4]) (by kernel_rfl) (by kernel_rfl) (by kernel_rfl)

theorem hFA_1 (u0 u1 : List AVal) (s m : ByteArray) :
    TripN Try.prog 3 (codeHd (bodyOf Try.f40)) ([AVal.str s, AVal.str m, AVal.slc false 0 1 0 5 none] ++ List.replicate (20 - 3) aundef) ([AObj.rows false 1 (flA 1 2), AObj.rows true 2 [u0], AObj.rows true 3 [u1]]) (AExit.normal) (mkR 20 [(1, AVal.str m), (2, AVal.slc false 0 1 0 5 none), (3, AVal.ptr 3 1 0 0), (6, AVal.ptr 4 1 0 0)]) ([AObj.rows false 1 (flA 1 2), AObj.rows true 2 [u0], AObj.rows true 3 [u1], AObj.rows true 1 [[AVal.str s]], AObj.rows true 1 [[iI 0]]]) :=
  evalT (st := St.mk ([AVal.str s, AVal.str m, AVal.slc false 0 1 0 5 none] ++ List.replicate (20 - 3) aundef) ([AObj.rows false 1 (flA 1 2), AObj.rows true 2 [u0], AObj.rows true 3 [u1]]) ([]) []) (st' := St.mk (mkR 20 [(0, AVal.str s), (1, AVal.str m), (2, AVal.slc false 0 1 0 5 none), (3, AVal.ptr 3 1 0 0), (4, AVal.tuple []), (5, AVal.tuple []), (6, AVal.ptr 4 1 0 0), (7, AVal.tuple []), (8, AVal.tuple []), (9, AVal.tuple []), (10, AVal.tuple []), (11, AVal.tuple []), (12, AVal.tuple []), (13, AVal.tuple []), (14, AVal.tuple []), (15, AVal.tuple []), (16, AVal.tuple []), (17, AVal.tuple []), (18, AVal.tuple []), (19, AVal.tuple [])]) ([AObj.rows false 1 (flA 1 2), AObj.rows true 2 [u0], AObj.rows true 3 [u1], AObj.rows true 1 [[AVal.str s]], AObj.rows true 1 [[iI 0]]]) ([]) []) followed (by kernel_rfl) (allP_of trivial) (keepM 20 [1, 2, 3, 6]) ([0, 1, 2, 3, 4]) (by kernel_rfl) (by kernel_rfl) (by kernel_rfl)

end Go.L12
end

section
set_option linter.unusedVariables false
set_option maxRecDepth 100000
namespace Go.L12.D
open Go Go.Abs Go.Proofs Go.L12
variable [DS]

theorem rFA_1 (u0 u1 v0 v1 : List AVal) (m s s2 : ByteArray) (b : Bool)
    (h1 : FOk Try.prog 58 [AVal.bool (ByteArray.toList s2 == ByteArray.toList (ByteArray.mk #[]))] [] (AVal.tuple []) [])
    (h2 : FOk Try.prog 60 [AVal.ptr 0 1 0 0, AVal.slc false 1 1 0 5 none] [AObj.rows true 1 [[AVal.str (ByteArray.extract s (Int.toNat (↑(ByteArray.size m) : Int)) (Int.toNat (↑(ByteArray.size s) : Int)))]], AObj.rows false 1 (flA 2 3), AObj.rows true 2 [u0], AObj.rows true 3 [u1]] (AVal.tuple []) [AObj.rows true 1 [[AVal.str s2]], AObj.rows false 1 (flA 2 3), AObj.rows true 2 [v0], AObj.rows true 3 [v1]])
    (h3 : decide (0 ≤ (↑(ByteArray.size m) : Int) ∧ (↑(ByteArray.size m) : Int) ≤ (↑(ByteArray.size s) : Int) ∧ (↑(ByteArray.size s) : Int) ≤ (↑(ByteArray.size s) : Int)) = true)
    (h4 : FOk Try.prog 58 [AVal.bool true] [] (AVal.tuple []) [])
    (h5 : FOk Try.prog 59 [AVal.str s, AVal.str m] [] (AVal.bool true) []) :
    TripN Try.prog 5 (codeTail (codeTail (bodyOf Try.f40))) (mkR 20 [(1, AVal.str m), (2, AVal.slc false 0 1 0 5 none), (3, AVal.ptr 3 1 0 0), (6, AVal.ptr 4 1 0 0)]) ([AObj.rows false 1 (flA 1 2), AObj.rows true 2 [u0], AObj.rows true 3 [u1], AObj.rows true 1 [[AVal.str s]], AObj.rows true 1 [[AVal.int IntKind.i64 0]]]) (AExit.ret) (mkR 20 [(6, AVal.ptr 4 1 0 0)]) ([AObj.rows false 1 (flA 1 2), AObj.rows true 2 [v0], AObj.rows true 3 [v1], AObj.rows true 1 [[AVal.str s2]], AObj.rows true 1 [[AVal.int IntKind.i64 0]]]) :=
  evalT (st := St.mk (mkR 20 [(1, AVal.str m), (2, AVal.slc false 0 1 0 5 none), (3, AVal.ptr 3 1 0 0), (6, AVal.ptr 4 1 0 0)]) ([AObj.rows false 1 (flA 1 2), AObj.rows true 2 [u0], AObj.rows true 3 [u1], AObj.rows true 1 [[AVal.str s]], AObj.rows true 1 [[AVal.int IntKind.i64 0]]]) ([Dec.use [] [AVal.str s, AVal.str m] [] (AVal.bool true) [], Dec.use [] [AVal.bool true] [] (AVal.tuple []) [], Dec.use [3, 0, 1, 2] [AVal.ptr 0 1 0 0, AVal.slc false 1 1 0 5 none] [AObj.rows true 1 [[AVal.str (ByteArray.extract s (Int.toNat (↑(ByteArray.size m) : Int)) (Int.toNat (↑(ByteArray.size s) : Int)))]], AObj.rows false 1 (flA 2 3), AObj.rows true 2 [u0], AObj.rows true 3 [u1]] (AVal.tuple []) [AObj.rows true 1 [[AVal.str s2]], AObj.rows false 1 (flA 2 3), AObj.rows true 2 [v0], AObj.rows true 3 [v1]], Dec.use [] [AVal.bool (ByteArray.toList s2 == ByteArray.toList (ByteArray.mk #[]))] [] (AVal.tuple []) []]) []) (st' := St.mk (mkR 20 [(1, AVal.str m), (2, AVal.slc false 0 1 0 5 none), (3, AVal.ptr 3 1 0 0), (6, AVal.ptr 4 1 0 0), (7, AVal.str s), (8, AVal.str m), (9, AVal.bool true), (10, AVal.tuple []), (11, AVal.str s), (12, AVal.str m), (13, AVal.int IntKind.i64 (↑(ByteArray.size m) : Int)), (14, AVal.str (ByteArray.extract s (Int.toNat (↑(ByteArray.size m) : Int)) (Int.toNat (↑(ByteArray.size s) : Int)))), (15, AVal.slc false 0 1 0 5 none), (16, AVal.tuple []), (17, AVal.str s2), (18, AVal.bool (ByteArray.toList s2 == ByteArray.toList (ByteArray.mk #[]))), (19, AVal.tuple [])]) ([AObj.rows false 1 (flA 1 2), AObj.rows true 2 [v0], AObj.rows true 3 [v1], AObj.rows true 1 [[AVal.str s2]], AObj.rows true 1 [[AVal.int IntKind.i64 0]]]) ([]) (tr 2 ++ ((Owed.use (owed Try.prog 5) 58 [] [AVal.bool (ByteArray.toList s2 == ByteArray.toList (ByteArray.mk #[]))] [AObj.rows false 1 (flA 1 2), AObj.rows true 2 [v0], AObj.rows true 3 [v1], AObj.rows true 1 [[AVal.str s2]], AObj.rows true 1 [[AVal.int IntKind.i64 0]]] [AVal.bool (ByteArray.toList s2 == ByteArray.toList (ByteArray.mk #[]))] [] (AVal.tuple []) []) :: (tr 3 ++ ((Owed.use (owed Try.prog 5) 60 [3, 0, 1, 2] [AVal.ptr 3 1 0 0, AVal.slc false 0 1 0 5 none] [AObj.rows false 1 (flA 1 2), AObj.rows true 2 [u0], AObj.rows true 3 [u1], AObj.rows true 1 [[AVal.str (ByteArray.extract s (Int.toNat (↑(ByteArray.size m) : Int)) (Int.toNat (↑(ByteArray.size s) : Int)))]], AObj.rows true 1 [[AVal.int IntKind.i64 0]]] [AVal.ptr 0 1 0 0, AVal.slc false 1 1 0 5 none] [AObj.rows true 1 [[AVal.str (ByteArray.extract s (Int.toNat (↑(ByteArray.size m) : Int)) (Int.toNat (↑(ByteArray.size s) : Int)))]], AObj.rows false 1 (flA 2 3), AObj.rows true 2 [u0], AObj.rows true 3 [u1]] (AVal.tuple []) [AObj.rows true 1 [[AVal.str s2]], AObj.rows false 1 (flA 2 3), AObj.rows true 2 [v0], AObj.rows true 3 [v1]]) :: (tr 2 ++ ((decide (0 ≤ (↑(ByteArray.size m) : Int) ∧ (↑(ByteArray.size m) : Int) ≤ (↑(ByteArray.size s) : Int) ∧ (↑(ByteArray.size s) : Int) ≤ (↑(ByteArray.size s) : Int)) = true) :: (tr 3 ++ ((Owed.use (owed Try.prog 5) 58 [] [AVal.bool true] [AObj.rows false 1 (flA 1 2), AObj.rows true 2 [u0], AObj.rows true 3 [u1], AObj.rows true 1 [[AVal.str s]], AObj.rows true 1 [[AVal.int IntKind.i64 0]]] [AVal.bool true] [] (AVal.tuple []) []) :: ((Owed.use (owed Try.prog 5) 59 [] [AVal.str s, AVal.str m] [AObj.rows false 1 (flA 1 2), AObj.rows true 2 [u0], AObj.rows true 3 [u1], AObj.rows true 1 [[AVal.str s]], AObj.rows true 1 [[AVal.int IntKind.i64 0]]] [AVal.str s, AVal.str m] [] (AVal.bool true) []) :: (tr 3 ++ []))))))))))) followed (by kernel_rfl) (allP_of (trC 2 ⟨⟨h1, rfl, rfl, rfl⟩, (trC 3 ⟨⟨h2, rfl, rfl, rfl⟩, (trC 2 ⟨h3, (trC 3 ⟨⟨h4, rfl, rfl, rfl⟩, ⟨⟨h5, rfl, rfl, rfl⟩, (trC 3 trivial)⟩⟩)⟩)⟩)⟩)) (keepM 20 [6]) ([0, 1, 2, 3, 4]) (by kernel_rfl) (by kernel_rfl) (by kernel_rfl)

theorem rFeA_1 (u0 u1 v0 v1 : List AVal) (m s s2 : ByteArray) (b : Bool)
    (h1 : FOk Try.prog 58 [AVal.bool (ByteArray.toList s2 == ByteArray.toList (ByteArray.mk #[]))] [] (AVal.pan 117) [])
    (h2 : FOk Try.prog 60 [AVal.ptr 0 1 0 0, AVal.slc false 1 1 0 5 none] [AObj.rows true 1 [[AVal.str (ByteArray.extract s (Int.toNat (↑(ByteArray.size m) : Int)) (Int.toNat (↑(ByteArray.size s) : Int)))]], AObj.rows false 1 (flA 2 3), AObj.rows true 2 [u0], AObj.rows true 3 [u1]] (AVal.tuple []) [AObj.rows true 1 [[AVal.str s2]], AObj.rows false 1 (flA 2 3), AObj.rows true 2 [v0], AObj.rows true 3 [v1]])
    (h3 : decide (0 ≤ (↑(ByteArray.size m) : Int) ∧ (↑(ByteArray.size m) : Int) ≤ (↑(ByteArray.size s) : Int) ∧ (↑(ByteArray.size s) : Int) ≤ (↑(ByteArray.size s) : Int)) = true)
    (h4 : FOk Try.prog 58 [AVal.bool true] [] (AVal.tuple []) [])
    (h5 : FOk Try.prog 59 [AVal.str s, AVal.str m] [] (AVal.bool true) []) :
    TripN Try.prog 5 (codeTail (codeTail (bodyOf Try.f40))) (mkR 20 [(1, AVal.str m), (2, AVal.slc false 0 1 0 5 none), (3, AVal.ptr 3 1 0 0), (6, AVal.ptr 4 1 0 0)]) ([AObj.rows false 1 (flA 1 2), AObj.rows true 2 [u0], AObj.rows true 3 [u1], AObj.rows true 1 [[AVal.str s]], AObj.rows true 1 [[AVal.int IntKind.i64 0]]]) (AExit.pan 117) (mkR 20 [(6, AVal.ptr 4 1 0 0)]) ([AObj.rows false 1 (flA 1 2), AObj.rows true 2 [v0], AObj.rows true 3 [v1], AObj.rows true 1 [[AVal.str s2]], AObj.rows true 1 [[AVal.int IntKind.i64 0]]]) :=
  evalT (st := St.mk (mkR 20 [(1, AVal.str m), (2, AVal.slc false 0 1 0 5 none), (3, AVal.ptr 3 1 0 0), (6, AVal.ptr 4 1 0 0)]) ([AObj.rows false 1 (flA 1 2), AObj.rows true 2 [u0], AObj.rows true 3 [u1], AObj.rows true 1 [[AVal.str s]], AObj.rows true 1 [[AVal.int IntKind.i64 0]]]) ([Dec.use [] [AVal.str s, AVal.str m] [] (AVal.bool true) [], Dec.use [] [AVal.bool true] [] (AVal.tuple []) [], Dec.use [3, 0, 1, 2] [AVal.ptr 0 1 0 0, AVal.slc false 1 1 0 5 none] [AObj.rows true 1 [[AVal.str (ByteArray.extract s (Int.toNat (↑(ByteArray.size m) : Int)) (Int.toNat (↑(ByteArray.size s) : Int)))]], AObj.rows false 1 (flA 2 3), AObj.rows true 2 [u0], AObj.rows true 3 [u1]] (AVal.tuple []) [AObj.rows true 1 [[AVal.str s2]], AObj.rows false 1 (flA 2 3), AObj.rows true 2 [v0], AObj.rows true 3 [v1]], Dec.use [] [AVal.bool (ByteArray.toList s2 == ByteArray.toList (ByteArray.mk #[]))] [] (AVal.pan 117) []]) []) (st' := St.mk (mkR 20 [(1, AVal.str m), (2, AVal.slc false 0 1 0 5 none), (3, AVal.ptr 3 1 0 0), (6, AVal.ptr 4 1 0 0), (7, AVal.str s), (8, AVal.str m), (9, AVal.bool true), (10, AVal.tuple []), (11, AVal.str s), (12, AVal.str m), (13, AVal.int IntKind.i64 (↑(ByteArray.size m) : Int)), (14, AVal.str (ByteArray.extract s (Int.toNat (↑(ByteArray.size m) : Int)) (Int.toNat (↑(ByteArray.size s) : Int)))), (15, AVal.slc false 0 1 0 5 none), (16, AVal.tuple []), (17, AVal.str s2), (18, AVal.bool (ByteArray.toList s2 == ByteArray.toList (ByteArray.mk #[])))]) ([AObj.rows false 1 (flA 1 2), AObj.rows true 2 [v0], AObj.rows true 3 [v1], AObj.rows true 1 [[AVal.str s2]], AObj.rows true 1 [[AVal.int IntKind.i64 0]]]) ([]) ((Owed.use (owed Try.prog 5) 58 [] [AVal.bool (ByteArray.toList s2 == ByteArray.toList (ByteArray.mk #[]))] [AObj.rows false 1 (flA 1 2), AObj.rows true 2 [v0], AObj.rows true 3 [v1], AObj.rows true 1 [[AVal.str s2]], AObj.rows true 1 [[AVal.int IntKind.i64 0]]] [AVal.bool (ByteArray.toList s2 == ByteArray.toList (ByteArray.mk #[]))] [] (AVal.pan 117) []) :: (tr 3 ++ ((Owed.use (owed Try.prog 5) 60 [3, 0, 1, 2] [AVal.ptr 3 1 0 0, AVal.slc false 0 1 0 5 none] [AObj.rows false 1 (flA 1 2), AObj.rows true 2 [u0], AObj.rows true 3 [u1], AObj.rows true 1 [[AVal.str (ByteArray.extract s (Int.toNat (↑(ByteArray.size m) : Int)) (Int.toNat (↑(ByteArray.size s) : Int)))]], AObj.rows true 1 [[AVal.int IntKind.i64 0]]] [AVal.ptr 0 1 0 0, AVal.slc false 1 1 0 5 none] [AObj.rows true 1 [[AVal.str (ByteArray.extract s (Int.toNat (↑(ByteArray.size m) : Int)) (Int.toNat (↑(ByteArray.size s) : Int)))]], AObj.rows false 1 (flA 2 3), AObj.rows true 2 [u0], AObj.rows true 3 [u1]] (AVal.tuple []) [AObj.rows true 1 [[AVal.str s2]], AObj.rows false 1 (flA 2 3), AObj.rows true 2 [v0], AObj.rows true 3 [v1]]) :: (tr 2 ++ ((decide (0 ≤ (↑(ByteArray.size m) : Int) ∧ (↑(ByteArray.size m) : Int) ≤ (↑(ByteArray.size s) : Int) ∧ (↑(ByteArray.size s) : Int) ≤ (↑(ByteArray.size s) : Int)) = true) :: (tr 3 ++ ((Owed.use (owed Try.prog 5) 58 [] [AVal.bool true] [AObj.rows false 1 (flA 1 2), AObj.rows true 2 [u0], AObj.rows true 3 [u1], AObj.rows true 1 [[AVal.str s]], AObj.rows true 1 [[AVal.int IntKind.i64 0]]] [AVal.bool true] [] (AVal.tuple []) []) :: ((Owed.use (owed Try.prog 5) 59 [] [AVal.str s, AVal.str m] [AObj.rows false 1 (flA 1 2), AObj.rows true 2 [u0], AObj.rows true 3 [u1], AObj.rows true 1 [[AVal.str s]], AObj.rows true 1 [[AVal.int IntKind.i64 0]]] [AVal.str s, AVal.str m] [] (AVal.bool true) []) :: (tr 3 ++ [])))))))))) followed (by kernel_rfl) (allP_of ⟨⟨h1, rfl, rfl, rfl⟩, (trC 3 ⟨⟨h2, rfl, rfl, rfl⟩, (trC 2 ⟨h3, (trC 3 ⟨⟨h4, rfl, rfl, rfl⟩, ⟨⟨h5, rfl, rfl, rfl⟩, (trC 3 trivial)⟩⟩)⟩)⟩)⟩) (keepM 20 [6]) ([0, 1, 2, 3, 4]) (by kernel_rfl) (by kernel_rfl) (by kernel_rfl)

theorem rFnA_1 (u0 u1 : List AVal) (m s : ByteArray)
    (h1 : FOk Try.prog 60 [AVal.ptr 0 1 0 0, AVal.slc false 1 1 0 5 none] [AObj.rows true 1 [[AVal.str (ByteArray.extract s (Int.toNat (↑(ByteArray.size m) : Int)) (Int.toNat (↑(ByteArray.size s) : Int)))]], AObj.rows false 1 (flA 2 3), AObj.rows true 2 [u0], AObj.rows true 3 [u1]] (AVal.pan 117) [AObj.dead, AObj.dead, AObj.dead, AObj.dead])
    (h2 : decide (0 ≤ (↑(ByteArray.size m) : Int) ∧ (↑(ByteArray.size m) : Int) ≤ (↑(ByteArray.size s) : Int) ∧ (↑(ByteArray.size s) : Int) ≤ (↑(ByteArray.size s) : Int)) = true)
    (h3 : FOk Try.prog 58 [AVal.bool true] [] (AVal.tuple []) [])
    (h4 : FOk Try.prog 59 [AVal.str s, AVal.str m] [] (AVal.bool true) []) :
    TripN Try.prog 5 (codeTail (codeTail (bodyOf Try.f40))) (mkR 20 [(1, AVal.str m), (2, AVal.slc false 0 1 0 5 none), (3, AVal.ptr 3 1 0 0), (6, AVal.ptr 4 1 0 0)]) ([AObj.rows false 1 (flA 1 2), AObj.rows true 2 [u0], AObj.rows true 3 [u1], AObj.rows true 1 [[AVal.str s]], AObj.rows true 1 [[AVal.int IntKind.i64 0]]]) (AExit.pan 117) (mkR 20 [(6, AVal.ptr 4 1 0 0)]) ([AObj.dead, AObj.dead, AObj.dead, AObj.dead, AObj.rows true 1 [[AVal.int IntKind.i64 0]]]) :=
  evalT (st := St.mk (mkR 20 [(1, AVal.str m), (2, AVal.slc false 0 1 0 5 none), (3, AVal.ptr 3 1 0 0), (6, AVal.ptr 4 1 0 0)]) ([AObj.rows false 1 (flA 1 2), AObj.rows true 2 [u0], AObj.rows true 3 [u1], AObj.rows true 1 [[AVal.str s]], AObj.rows true 1 [[AVal.int IntKind.i64 0]]]) ([Dec.use [] [AVal.str s, AVal.str m] [] (AVal.bool true) [], Dec.use [] [AVal.bool true] [] (AVal.tuple []) [], Dec.use [3, 0, 1, 2] [AVal.ptr 0 1 0 0, AVal.slc false 1 1 0 5 none] [AObj.rows true 1 [[AVal.str (ByteArray.extract s (Int.toNat (↑(ByteArray.size m) : Int)) (Int.toNat (↑(ByteArray.size s) : Int)))]], AObj.rows false 1 (flA 2 3), AObj.rows true 2 [u0], AObj.rows true 3 [u1]] (AVal.pan 117) [AObj.dead, AObj.dead, AObj.dead, AObj.dead]]) []) (st' := St.mk (mkR 20 [(1, AVal.str m), (2, AVal.slc false 0 1 0 5 none), (3, AVal.ptr 3 1 0 0), (6, AVal.ptr 4 1 0 0), (7, AVal.str s), (8, AVal.str m), (9, AVal.bool true), (10, AVal.tuple []), (11, AVal.str s), (12, AVal.str m), (13, AVal.int IntKind.i64 (↑(ByteArray.size m) : Int)), (14, AVal.str (ByteArray.extract s (Int.toNat (↑(ByteArray.size m) : Int)) (Int.toNat (↑(ByteArray.size s) : Int)))), (15, AVal.slc false 0 1 0 5 none)]) ([AObj.dead, AObj.dead, AObj.dead, AObj.dead, AObj.rows true 1 [[AVal.int IntKind.i64 0]]]) ([]) ((Owed.use (owed Try.prog 5) 60 [3, 0, 1, 2] [AVal.ptr 3 1 0 0, AVal.slc false 0 1 0 5 none] [AObj.rows false 1 (flA 1 2), AObj.rows true 2 [u0], AObj.rows true 3 [u1], AObj.rows true 1 [[AVal.str (ByteArray.extract s (Int.toNat (↑(ByteArray.size m) : Int)) (Int.toNat (↑(ByteArray.size s) : Int)))]], AObj.rows true 1 [[AVal.int IntKind.i64 0]]] [AVal.ptr 0 1 0 0, AVal.slc false 1 1 0 5 none] [AObj.rows true 1 [[AVal.str (ByteArray.extract s (Int.toNat (↑(ByteArray.size m) : Int)) (Int.toNat (↑(ByteArray.size s) : Int)))]], AObj.rows false 1 (flA 2 3), AObj.rows true 2 [u0], AObj.rows true 3 [u1]] (AVal.pan 117) [AObj.dead, AObj.dead, AObj.dead, AObj.dead]) :: (tr 2 ++ ((decide (0 ≤ (↑(ByteArray.size m) : Int) ∧ (↑(ByteArray.size m) : Int) ≤ (↑(ByteArray.size s) : Int) ∧ (↑(ByteArray.size s) : Int) ≤ (↑(ByteArray.size s) : Int)) = true) :: (tr 3 ++ ((Owed.use (owed Try.prog 5) 58 [] [AVal.bool true] [AObj.rows false 1 (flA 1 2), AObj.rows true 2 [u0], AObj.rows true 3 [u1], AObj.rows true 1 [[AVal.str s]], AObj.rows true 1 [[AVal.int IntKind.i64 0]]] [AVal.bool true] [] (AVal.tuple []) []) :: ((Owed.use (owed Try.prog 5) 59 [] [AVal.str s, AVal.str m] [AObj.rows false 1 (flA 1 2), AObj.rows true 2 [u0], AObj.rows true 3 [u1], AObj.rows true 1 [[AVal.str s]], AObj.rows true 1 [[AVal.int IntKind.i64 0]]] [AVal.str s, AVal.str m] [] (AVal.bool true) []) :: (tr 3 ++ [])))))))) followed (by kernel_rfl) (allP_of ⟨⟨h1, rfl, rfl, rfl⟩, (trC 2 ⟨h2, (trC 3 ⟨⟨h3, rfl, rfl, rfl⟩, ⟨⟨h4, rfl, rfl, rfl⟩, (trC 3 trivial)⟩⟩)⟩)⟩) (keepM 20 [6]) ([0, 1, 2, 3, 4]) (by kernel_rfl) (by kernel_rfl) (by kernel_rfl)

theorem rFpA_1 (u0 u1 : List AVal) (m s : ByteArray)
    (h1 : FOk Try.prog 58 [AVal.bool false] [] (AVal.pan 117) [])
    (h2 : FOk Try.prog 59 [AVal.str s, AVal.str m] [] (AVal.bool false) []) :
    TripN Try.prog 5 (codeTail (codeTail (bodyOf Try.f40))) (mkR 20 [(1, AVal.str m), (2, AVal.slc false 0 1 0 5 none), (3, AVal.ptr 3 1 0 0), (6, AVal.ptr 4 1 0 0)]) ([AObj.rows false 1 (flA 1 2), AObj.rows true 2 [u0], AObj.rows true 3 [u1], AObj.rows true 1 [[AVal.str s]], AObj.rows true 1 [[AVal.int IntKind.i64 0]]]) (AExit.pan 117) (mkR 20 [(6, AVal.ptr 4 1 0 0)]) ([AObj.rows false 1 (flA 1 2), AObj.rows true 2 [u0], AObj.rows true 3 [u1], AObj.rows true 1 [[AVal.str s]], AObj.rows true 1 [[AVal.int IntKind.i64 0]]]) :=
  evalT (st := St.mk (mkR 20 [(1, AVal.str m), (2, AVal.slc false 0 1 0 5 none), (3, AVal.ptr 3 1 0 0), (6, AVal.ptr 4 1 0 0)]) ([AObj.rows false 1 (flA 1 2), AObj.rows true 2 [u0], AObj.rows true 3 [u1], AObj.rows true 1 [[AVal.str s]], AObj.rows true 1 [[AVal.int IntKind.i64 0]]]) ([Dec.use [] [AVal.str s, AVal.str m] [] (AVal.bool false) [], Dec.use [] [AVal.bool false] [] (AVal.pan 117) []]) []) (st' := St.mk (mkR 20 [(1, AVal.str m), (2, AVal.slc false 0 1 0 5 none), (3, AVal.ptr 3 1 0 0), (6, AVal.ptr 4 1 0 0), (7, AVal.str s), (8, AVal.str m), (9, AVal.bool false)]) ([AObj.rows false 1 (flA 1 2), AObj.rows true 2 [u0], AObj.rows true 3 [u1], AObj.rows true 1 [[AVal.str s]], AObj.rows true 1 [[AVal.int IntKind.i64 0]]]) ([]) ((Owed.use (owed Try.prog 5) 58 [] [AVal.bool false] [AObj.rows false 1 (flA 1 2), AObj.rows true 2 [u0], AObj.rows true 3 [u1], AObj.rows true 1 [[AVal.str s]], AObj.rows true 1 [[AVal.int IntKind.i64 0]]] [AVal.bool false] [] (AVal.pan 117) []) :: ((Owed.use (owed Try.prog 5) 59 [] [AVal.str s, AVal.str m] [AObj.rows false 1 (flA 1 2), AObj.rows true 2 [u0], AObj.rows true 3 [u1], AObj.rows true 1 [[AVal.str s]], AObj.rows true 1 [[AVal.int IntKind.i64 0]]] [AVal.str s, AVal.str m] [] (AVal.bool false) []) :: (tr 3 ++ [])))) followed (by kernel_rfl) (allP_of ⟨⟨h1, rfl, rfl, rfl⟩, ⟨⟨h2, rfl, rfl, rfl⟩, (trC 3 trivial)⟩⟩) (keepM 20 [6]) ([0, 1, 2, 3, 4]) (by kernel_rfl) (by kernel_rfl) (by kernel_rfl)

end Go.L12.D
end

section
set_option linter.unusedVariables false
set_option linter.unusedSimpArgs false
set_option maxRecDepth 100000
namespace Go.L12
open Go Go.Abs Go.Proofs

theorem fromA_ok (u0 u1 v0 v1 : List AVal) (s m : ByteArray) (hp : (lB m <+: lB s)) (h : FOk Try.prog 60 [.ptr 0 1 0 0, .slc false 1 1 0 5 none] [.rows true 1 [[.str (s.extract m.size s.size)]], .rows false 1 (flA 2 3), .rows true 2 [u0], .rows true 3 [u1]] (.tuple []) [.rows true 1 [[.str ⟨#[]⟩]], .rows false 1 (flA 2 3), .rows true 2 [v0], .rows true 3 [v1]]) :
    FOk Try.prog 40 [.str s, .str m, .slc false 0 1 0 5 none] [.rows false 1 (flA 1 2), .rows true 2 [u0], .rows true 3 [u1]] (.int .i64 0) [.rows false 1 (flA 1 2), .rows true 2 [v0], .rows true 3 [v1]] :=
  have hl := hp.length_le
  have hl : m.size ≤ s.size := by rw [lB_length, lB_length] at hl; exact hl
  (defer_calls (P := Try.prog) (f := 40) (fn := Try.f40) (c0 := .seq (codeHd (bodyOf Try.f40)) (.seq (.region 1 #[firstOp (codeTail (bodyOf Try.f40))] false) (codeTail (codeTail (bodyOf Try.f40))))) (rest := codeTail (codeTail (bodyOf Try.f40))) (blk := codeTail (bodyOf Try.f57)) (dop := firstOp (codeTail (bodyOf Try.f40))) (rop := firstOp (bodyOf Try.f57)) (gn := Try.f57) (g := 57) (no := 140) (k := 6) (kk := 7) (id := 4) (rid := 1) (rid2 := 0) (ts := #[102, 26]) (tsr := #[]) (xs := [.str s, .str m, .slc false 0 1 0 5 none]) (σ := [.rows false 1 (flA 1 2), .rows true 2 [u0], .rows true 3 [u1]]) (σ1 := [.rows false 1 (flA 1 2), .rows true 2 [u0], .rows true 3 [u1], .rows true 1 [[.str s]], .rows true 1 [[.int .i64 0]]]) (y := ([.int .i64 0], tr 3 ++ []))
    rfl Try.func40 (by kernel_rfl) (by kernel_rfl) (by kernel_rfl) (by kernel_rfl) (by kernel_rfl) Try.func57 (by kernel_rfl) (by kernel_rfl) (by kernel_rfl) (by kernel_rfl) (by kernel_rfl) (by kernel_rfl)
    (Pre.one (hFA_1 u0 u1 s m)) (fun ds => @D.rFA_1 ⟨ds⟩ u0 u1 v0 v1 m s ⟨#[]⟩ true (right_ok _ (by simp)) h (decide_eq_true (by omega)) (right_ok _ rfl) (by have := hasPrefix_ok s m; rw [decide_eq_true hp] at this; exact this)) (by kernel_rfl) (.inl ⟨rfl, rfl⟩) (bFA_1 v0 v1 ⟨#[]⟩) (by kernel_rfl) tr3).move [0, 1, 2] (by kernel_rfl) (by kernel_rfl) (by kernel_rfl)
theorem fromA_more (u0 u1 v0 v1 : List AVal) (s m s2 : ByteArray) (hp : (lB m <+: lB s)) (h2 : s2.size ≠ 0) (h : FOk Try.prog 60 [.ptr 0 1 0 0, .slc false 1 1 0 5 none] [.rows true 1 [[.str (s.extract m.size s.size)]], .rows false 1 (flA 2 3), .rows true 2 [u0], .rows true 3 [u1]] (.tuple []) [.rows true 1 [[.str s2]], .rows false 1 (flA 2 3), .rows true 2 [v0], .rows true 3 [v1]]) :
    FOk Try.prog 40 [.str s, .str m, .slc false 0 1 0 5 none] [.rows false 1 (flA 1 2), .rows true 2 [u0], .rows true 3 [u1]] (.int .i64 140) [.dead, .dead, .dead] :=
  have hl := hp.length_le
  have hl : m.size ≤ s.size := by rw [lB_length, lB_length] at hl; exact hl
  have hne : (s2.toList == (ByteArray.mk #[]).toList) = false := by
    rw [toList_lB, toList_lB, beq_eq_false_iff_ne]
    intro e
    have := lB_inj e
    subst this
    exact h2 rfl
  (defer_calls (P := Try.prog) (f := 40) (fn := Try.f40) (c0 := .seq (codeHd (bodyOf Try.f40)) (.seq (.region 1 #[firstOp (codeTail (bodyOf Try.f40))] false) (codeTail (codeTail (bodyOf Try.f40))))) (rest := codeTail (codeTail (bodyOf Try.f40))) (blk := codeTail (bodyOf Try.f57)) (dop := firstOp (codeTail (bodyOf Try.f40))) (rop := firstOp (bodyOf Try.f57)) (gn := Try.f57) (g := 57) (no := 140) (k := 6) (kk := 7) (id := 4) (rid := 1) (rid2 := 0) (ts := #[102, 26]) (tsr := #[]) (xs := [.str s, .str m, .slc false 0 1 0 5 none]) (σ := [.rows false 1 (flA 1 2), .rows true 2 [u0], .rows true 3 [u1]]) (σ1 := [.rows false 1 (flA 1 2), .rows true 2 [u0], .rows true 3 [u1], .rows true 1 [[.str s]], .rows true 1 [[.int .i64 0]]]) (y := ([.int .i64 140], tr 3 ++ []))
    rfl Try.func40 (by kernel_rfl) (by kernel_rfl) (by kernel_rfl) (by kernel_rfl) (by kernel_rfl) Try.func57 (by kernel_rfl) (by kernel_rfl) (by kernel_rfl) (by kernel_rfl) (by kernel_rfl) (by kernel_rfl)
    (Pre.one (hFA_1 u0 u1 s m)) (fun ds => @TripN.deadH (@dsG ⟨ds⟩) _ _ _ _ _ _ _ _ (@D.rFeA_1 ⟨ds⟩ u0 u1 v0 v1 m s s2 true (right_no _ hne) h (decide_eq_true (by omega)) (right_ok _ rfl) (by have := hasPrefix_ok s m; rw [decide_eq_true hp] at this; exact this)) [true, true, true, true]) (by kernel_rfl) (.inr ⟨117, rfl, rfl⟩) (bFnA_1 0) (by kernel_rfl) tr3).move [0, 1, 2] (by kernel_rfl) (by kernel_rfl) (by kernel_rfl)
theorem fromA_no (u0 u1 : List AVal) (s m : ByteArray) (hp : (lB m <+: lB s)) (h : FOk Try.prog 60 [.ptr 0 1 0 0, .slc false 1 1 0 5 none] [.rows true 1 [[.str (s.extract m.size s.size)]], .rows false 1 (flA 2 3), .rows true 2 [u0], .rows true 3 [u1]] (.pan 117) [.dead, .dead, .dead, .dead]) :
    FOk Try.prog 40 [.str s, .str m, .slc false 0 1 0 5 none] [.rows false 1 (flA 1 2), .rows true 2 [u0], .rows true 3 [u1]] (.int .i64 140) [.dead, .dead, .dead] :=
  have hl := hp.length_le
  have hl : m.size ≤ s.size := by rw [lB_length, lB_length] at hl; exact hl
  (defer_calls (P := Try.prog) (f := 40) (fn := Try.f40) (c0 := .seq (codeHd (bodyOf Try.f40)) (.seq (.region 1 #[firstOp (codeTail (bodyOf Try.f40))] false) (codeTail (codeTail (bodyOf Try.f40))))) (rest := codeTail (codeTail (bodyOf Try.f40))) (blk := codeTail (bodyOf Try.f57)) (dop := firstOp (codeTail (bodyOf Try.f40))) (rop := firstOp (bodyOf Try.f57)) (gn := Try.f57) (g := 57) (no := 140) (k := 6) (kk := 7) (id := 4) (rid := 1) (rid2 := 0) (ts := #[102, 26]) (tsr := #[]) (xs := [.str s, .str m, .slc false 0 1 0 5 none]) (σ := [.rows false 1 (flA 1 2), .rows true 2 [u0], .rows true 3 [u1]]) (σ1 := [.rows false 1 (flA 1 2), .rows true 2 [u0], .rows true 3 [u1], .rows true 1 [[.str s]], .rows true 1 [[.int .i64 0]]]) (y := ([.int .i64 140], tr 3 ++ []))
    rfl Try.func40 (by kernel_rfl) (by kernel_rfl) (by kernel_rfl) (by kernel_rfl) (by kernel_rfl) Try.func57 (by kernel_rfl) (by kernel_rfl) (by kernel_rfl) (by kernel_rfl) (by kernel_rfl) (by kernel_rfl)
    (Pre.one (hFA_1 u0 u1 s m)) (fun ds => @D.rFnA_1 ⟨ds⟩ u0 u1 m s h (decide_eq_true (by omega)) (right_ok _ rfl) (by have := hasPrefix_ok s m; rw [decide_eq_true hp] at this; exact this)) (by kernel_rfl) (.inr ⟨117, rfl, rfl⟩) (bFnA_1 0) (by kernel_rfl) tr3).move [0, 1, 2] (by kernel_rfl) (by kernel_rfl) (by kernel_rfl)
theorem fromA_mark (u0 u1 : List AVal) (s m : ByteArray) (hp : ¬ (lB m <+: lB s)) :
    FOk Try.prog 40 [.str s, .str m, .slc false 0 1 0 5 none] [.rows false 1 (flA 1 2), .rows true 2 [u0], .rows true 3 [u1]] (.int .i64 140) [.dead, .dead, .dead] :=
  (defer_calls (P := Try.prog) (f := 40) (fn := Try.f40) (c0 := .seq (codeHd (bodyOf Try.f40)) (.seq (.region 1 #[firstOp (codeTail (bodyOf Try.f40))] false) (codeTail (codeTail (bodyOf Try.f40))))) (rest := codeTail (codeTail (bodyOf Try.f40))) (blk := codeTail (bodyOf Try.f57)) (dop := firstOp (codeTail (bodyOf Try.f40))) (rop := firstOp (bodyOf Try.f57)) (gn := Try.f57) (g := 57) (no := 140) (k := 6) (kk := 7) (id := 4) (rid := 1) (rid2 := 0) (ts := #[102, 26]) (tsr := #[]) (xs := [.str s, .str m, .slc false 0 1 0 5 none]) (σ := [.rows false 1 (flA 1 2), .rows true 2 [u0], .rows true 3 [u1]]) (σ1 := [.rows false 1 (flA 1 2), .rows true 2 [u0], .rows true 3 [u1], .rows true 1 [[.str s]], .rows true 1 [[.int .i64 0]]]) (y := ([.int .i64 140], tr 3 ++ []))
    rfl Try.func40 (by kernel_rfl) (by kernel_rfl) (by kernel_rfl) (by kernel_rfl) (by kernel_rfl) Try.func57 (by kernel_rfl) (by kernel_rfl) (by kernel_rfl) (by kernel_rfl) (by kernel_rfl) (by kernel_rfl)
    (Pre.one (hFA_1 u0 u1 s m)) (fun ds => @TripN.deadH (@dsG ⟨ds⟩) _ _ _ _ _ _ _ _ (@D.rFpA_1 ⟨ds⟩ u0 u1 m s (right_no _ rfl) (by have := hasPrefix_ok s m; rw [decide_eq_false hp] at this; exact this)) [true, true, true, true]) (by kernel_rfl) (.inr ⟨117, rfl, rfl⟩) (bFnA_1 0) (by kernel_rfl) tr3).move [0, 1, 2] (by kernel_rfl) (by kernel_rfl) (by kernel_rfl)
end Go.L12
end

section
set_option linter.unusedVariables false
set_option linter.unusedSimpArgs false
set_option maxRecDepth 100000
namespace Go.L12
open Go Go.Abs Go.Proofs

theorem fldzA_1 (z : Int) :
    FOk Try.prog 50 ([AVal.ptr 0 2 0 0, AVal.ptr 1 3 0 0]) ([AObj.rows true 2 [[iI z, iI 0]], AObj.rows false 3 [[iI 0, iI 0, AVal.fsl true 0 [] (some 0)]]]) (AVal.slc false 2 1 0 5 (some 5)) ([AObj.rows true 2 [[iI z, iI 0]], AObj.rows false 3 [[iI 0, iI 0, AVal.fsl true 0 [] (some 0)]], AObj.rows false 1 (flA 0 1)]) :=
  (evalF_ok followed Try.func50 (by kernel_rfl) (show evalF Try.prog Try.f50 ([AVal.ptr 0 2 0 0, AVal.ptr 1 3 0 0]) ([AObj.rows true 2 [[iI z, iI 0]], AObj.rows false 3 [[iI 0, iI 0, AVal.fsl true 0 [] (some 0)]]]) ([]) = .ok (FRes.mk (AVal.slc false 2 1 0 5 (some 5)) ([AObj.rows true 2 [[iI z, iI 0]], AObj.rows false 3 [[iI 0, iI 0, AVal.fsl true 0 [] (some 0)]], AObj.rows false 1 (flA 0 1)]) (tr 45 ++ [])) by kernel_rfl) (allP_of (trC 45 trivial))).move ([0, 1, 2]) (by kernel_rfl) (by kernel_rfl) (by kernel_rfl)

end Go.L12
end

section
set_option linter.unusedVariables false
set_option linter.unusedSimpArgs false
set_option maxRecDepth 100000
namespace Go.L12
open Go Go.Abs Go.Proofs

theorem FromA_1 (a0 a1 b0 b1 : Int) (nb : Bool) (rs : List (List AVal)) (s : ByteArray)
    (h1 : FOk Try.prog 40 [AVal.str s, AVal.str (ByteArray.mk #[65]), AVal.slc false 0 1 0 5 (some 5)] [AObj.rows false 1 (flA 1 2), AObj.rows true 2 [[iI 0, iI 0]], AObj.rows false 3 [[iI 0, iI 0, AVal.fsl true 0 [] (some 0)]]] (iI 0) [AObj.rows false 1 (flA 1 2), AObj.rows true 2 [[iI a0, iI a1]], AObj.rows true 3 [[iI b0, iI b1, AVal.fsl nb 2 rs none]]]) :
    FOk Try.prog 26 ([AVal.str s]) ([]) (AVal.tuple [AVal.agg [iI a0, iI a1], AVal.agg [iI b0, iI b1, AVal.fsl nb 2 rs none], iI 0]) ([]) :=
  (evalF_ok followed Try.func26 (by kernel_rfl) (show evalF Try.prog Try.f26 ([AVal.str s]) ([]) ([Dec.use [2, 3] [AVal.ptr 0 2 0 0, AVal.ptr 1 3 0 0] [AObj.rows true 2 [[iI 0, iI 0]], AObj.rows false 3 [[iI 0, iI 0, AVal.fsl true 0 [] (some 0)]]] (AVal.slc false 2 1 0 5 (some 5)) [AObj.rows true 2 [[iI 0, iI 0]], AObj.rows false 3 [[iI 0, iI 0, AVal.fsl true 0 [] (some 0)]], AObj.rows false 1 (flA 0 1)], Dec.use [4, 2, 3] [AVal.str s, AVal.str (ByteArray.mk #[65]), AVal.slc false 0 1 0 5 (some 5)] [AObj.rows false 1 (flA 1 2), AObj.rows true 2 [[iI 0, iI 0]], AObj.rows false 3 [[iI 0, iI 0, AVal.fsl true 0 [] (some 0)]]] (iI 0) [AObj.rows false 1 (flA 1 2), AObj.rows true 2 [rA0 a0 a1], AObj.rows true 3 [rA1 b0 b1 (AVal.fsl nb 2 rs none)]], Dec.br false]) = .ok (FRes.mk (AVal.tuple [AVal.agg [iI a0, iI a1], AVal.agg [iI b0, iI b1, AVal.fsl nb 2 rs none], iI 0]) ([AObj.rows true 2 [[iI a0, iI a1]], AObj.rows false 3 [[iI b0, iI b1, AVal.fsl nb 2 rs none]], AObj.rows true 2 [[iI a0, iI a1]], AObj.rows true 3 [[iI b0, iI b1, AVal.fsl nb 2 rs none]], AObj.rows false 1 (flA 2 3)]) (tr 28 ++ ((false = false) :: ((Owed.use (owed Try.prog 0) 40 [4, 2, 3] [AVal.str s, AVal.str (ByteArray.mk #[65]), AVal.slc false 4 1 0 5 (some 5)] [AObj.rows true 2 [[iI 0, iI 0]], AObj.rows false 3 [[iI 0, iI 0, AVal.fsl true 0 [] (some 0)]], AObj.rows true 2 [[iI 0, iI 0]], AObj.rows false 3 [[iI 0, iI 0, AVal.fsl true 0 [] (some 0)]], AObj.rows false 1 (flA 2 3)] [AVal.str s, AVal.str (ByteArray.mk #[65]), AVal.slc false 0 1 0 5 (some 5)] [AObj.rows false 1 (flA 1 2), AObj.rows true 2 [[iI 0, iI 0]], AObj.rows false 3 [[iI 0, iI 0, AVal.fsl true 0 [] (some 0)]]] (iI 0) [AObj.rows false 1 (flA 1 2), AObj.rows true 2 [[iI a0, iI a1]], AObj.rows true 3 [[iI b0, iI b1, AVal.fsl nb 2 rs none]]]) :: ((Owed.use (owed Try.prog 0) 50 [2, 3] [AVal.ptr 2 2 0 0, AVal.ptr 3 3 0 0] [AObj.rows true 2 [[iI 0, iI 0]], AObj.rows false 3 [[iI 0, iI 0, AVal.fsl true 0 [] (some 0)]], AObj.rows true 2 [[iI 0, iI 0]], AObj.rows false 3 [[iI 0, iI 0, AVal.fsl true 0 [] (some 0)]]] [AVal.ptr 0 2 0 0, AVal.ptr 1 3 0 0] [AObj.rows true 2 [[iI 0, iI 0]], AObj.rows false 3 [[iI 0, iI 0, AVal.fsl true 0 [] (some 0)]]] (AVal.slc false 2 1 0 5 (some 5)) [AObj.rows true 2 [[iI 0, iI 0]], AObj.rows false 3 [[iI 0, iI 0, AVal.fsl true 0 [] (some 0)]], AObj.rows false 1 (flA 0 1)]) :: []))))) by kernel_rfl) (allP_of (trC 28 ⟨rfl, ⟨⟨h1, rfl, rfl, rfl⟩, ⟨⟨(@Go.L12.fldzA_1 (0)), rfl, rfl, rfl⟩, trivial⟩⟩⟩))).move ([]) (by kernel_rfl) (by kernel_rfl) (by kernel_rfl)

def FromA_T (a0 a1 b0 b1 : Int) (nb : Bool) (rs : List (List AVal)) (s : ByteArray) (Q : AVal → AState → Prop) : Prop := (FOk Try.prog 40 [AVal.str s, AVal.str (ByteArray.mk #[65]), AVal.slc false 0 1 0 5 (some 5)] [AObj.rows false 1 (flA 1 2), AObj.rows true 2 [[iI 0, iI 0]], AObj.rows false 3 [[iI 0, iI 0, AVal.fsl true 0 [] (some 0)]]] (iI 0) [AObj.rows false 1 (flA 1 2), AObj.rows true 2 [[iI a0, iI a1]], AObj.rows true 3 [[iI b0, iI b1, AVal.fsl nb 2 rs none]]]) ∧ Q (AVal.tuple [AVal.agg [iI a0, iI a1], AVal.agg [iI b0, iI b1, AVal.fsl nb 2 rs none], iI 0]) ([])
theorem FromA_wp (a0 a1 b0 b1 : Int) (nb : Bool) (rs : List (List AVal)) (s : ByteArray) {Q : AVal → AState → Prop} (h : FromA_T a0 a1 b0 b1 nb rs s Q) : ∃ r σ', FOk Try.prog 26 ([AVal.str s]) ([]) r σ' ∧ Q r σ' :=
  ⟨_, _, FromA_1 a0 a1 b0 b1 nb rs s (h.1), h.2⟩


theorem FromNA_1 (s : ByteArray)
    (h1 : FOk Try.prog 40 [AVal.str s, AVal.str (ByteArray.mk #[65]), AVal.slc false 0 1 0 5 (some 5)] [AObj.rows false 1 (flA 1 2), AObj.rows true 2 [[iI 0, iI 0]], AObj.rows false 3 [[iI 0, iI 0, AVal.fsl true 0 [] (some 0)]]] (iI 140) [AObj.dead, AObj.dead, AObj.dead]) :
    FOk Try.prog 26 ([AVal.str s]) ([]) (AVal.tuple [AVal.agg [iI 0, iI 0], AVal.agg [iI 0, iI 0, AVal.fsl true 2 [] none], iI 140]) ([]) :=
  (evalF_ok followed Try.func26 (by kernel_rfl) (show evalF Try.prog Try.f26 ([AVal.str s]) ([]) ([Dec.use [2, 3] [AVal.ptr 0 2 0 0, AVal.ptr 1 3 0 0] [AObj.rows true 2 [[iI 0, iI 0]], AObj.rows false 3 [[iI 0, iI 0, AVal.fsl true 0 [] (some 0)]]] (AVal.slc false 2 1 0 5 (some 5)) [AObj.rows true 2 [[iI 0, iI 0]], AObj.rows false 3 [[iI 0, iI 0, AVal.fsl true 0 [] (some 0)]], AObj.rows false 1 (flA 0 1)], Dec.use [4, 2, 3] [AVal.str s, AVal.str (ByteArray.mk #[65]), AVal.slc false 0 1 0 5 (some 5)] [AObj.rows false 1 (flA 1 2), AObj.rows true 2 [[iI 0, iI 0]], AObj.rows false 3 [[iI 0, iI 0, AVal.fsl true 0 [] (some 0)]]] (iI 140) [AObj.dead, AObj.dead, AObj.dead], Dec.br true]) = .ok (FRes.mk (AVal.tuple [AVal.agg [iI 0, iI 0], AVal.agg [iI 0, iI 0, AVal.fsl true 2 [] none], iI 140]) ([AObj.rows true 2 [[iI 0, iI 0]], AObj.rows false 3 [[iI 0, iI 0, AVal.fsl true 0 [] (some 0)]], AObj.dead, AObj.dead, AObj.dead]) (tr 10 ++ ((Owed.use (owed Try.prog 0) 40 [4, 2, 3] [AVal.str s, AVal.str (ByteArray.mk #[65]), AVal.slc false 4 1 0 5 (some 5)] [AObj.rows true 2 [[iI 0, iI 0]], AObj.rows false 3 [[iI 0, iI 0, AVal.fsl true 0 [] (some 0)]], AObj.rows true 2 [[iI 0, iI 0]], AObj.rows false 3 [[iI 0, iI 0, AVal.fsl true 0 [] (some 0)]], AObj.rows false 1 (flA 2 3)] [AVal.str s, AVal.str (ByteArray.mk #[65]), AVal.slc false 0 1 0 5 (some 5)] [AObj.rows false 1 (flA 1 2), AObj.rows true 2 [[iI 0, iI 0]], AObj.rows false 3 [[iI 0, iI 0, AVal.fsl true 0 [] (some 0)]]] (iI 140) [AObj.dead, AObj.dead, AObj.dead]) :: ((Owed.use (owed Try.prog 0) 50 [2, 3] [AVal.ptr 2 2 0 0, AVal.ptr 3 3 0 0] [AObj.rows true 2 [[iI 0, iI 0]], AObj.rows false 3 [[iI 0, iI 0, AVal.fsl true 0 [] (some 0)]], AObj.rows true 2 [[iI 0, iI 0]], AObj.rows false 3 [[iI 0, iI 0, AVal.fsl true 0 [] (some 0)]]] [AVal.ptr 0 2 0 0, AVal.ptr 1 3 0 0] [AObj.rows true 2 [[iI 0, iI 0]], AObj.rows false 3 [[iI 0, iI 0, AVal.fsl true 0 [] (some 0)]]] (AVal.slc false 2 1 0 5 (some 5)) [AObj.rows true 2 [[iI 0, iI 0]], AObj.rows false 3 [[iI 0, iI 0, AVal.fsl true 0 [] (some 0)]], AObj.rows false 1 (flA 0 1)]) :: [])))) by kernel_rfl) (allP_of (trC 10 ⟨⟨h1, rfl, rfl, rfl⟩, ⟨⟨(@Go.L12.fldzA_1 (0)), rfl, rfl, rfl⟩, trivial⟩⟩))).move ([]) (by kernel_rfl) (by kernel_rfl) (by kernel_rfl)

def FromNA_T (s : ByteArray) (Q : AVal → AState → Prop) : Prop := (FOk Try.prog 40 [AVal.str s, AVal.str (ByteArray.mk #[65]), AVal.slc false 0 1 0 5 (some 5)] [AObj.rows false 1 (flA 1 2), AObj.rows true 2 [[iI 0, iI 0]], AObj.rows false 3 [[iI 0, iI 0, AVal.fsl true 0 [] (some 0)]]] (iI 140) [AObj.dead, AObj.dead, AObj.dead]) ∧ Q (AVal.tuple [AVal.agg [iI 0, iI 0], AVal.agg [iI 0, iI 0, AVal.fsl true 2 [] none], iI 140]) ([])
theorem FromNA_wp (s : ByteArray) {Q : AVal → AState → Prop} (h : FromNA_T s Q) : ∃ r σ', FOk Try.prog 26 ([AVal.str s]) ([]) r σ' ∧ Q r σ' :=
  ⟨_, _, FromNA_1 s (h.1), h.2⟩


end Go.L12
end

section
set_option linter.unusedVariables false
set_option linter.unusedSimpArgs false
set_option maxRecDepth 100000
namespace Go.L12
open Go Go.Abs Go.Proofs

def TA : List Nat := [100, 100, 102, 100, 112]
abbrev vsA (a0 a1 b0 b1 : Int) (v : AVal) : List AVal := [.int .i64 a0, .int .i64 a1, .int .i64 b0, .int .i64 b1, v]
theorem unLA {ts : List Nat} {vs : List AVal} (h : allF (112 :: ts) vs) : ∃ rs vs', vs = listV rs :: vs' ∧ isL 112 rs ∧ allF ts vs' := by
  obtain ⟨v, vs', rfl, ⟨n, rfl, h1⟩, h2⟩ := unF h
  exact ⟨n, vs', rfl, h1, h2⟩
theorem typedA {vs : List AVal} (h : allF TA vs) : ∃ (a0 a1 b0 b1 : Int) (rs : List (List AVal)), isL 112 rs ∧ vs = (vsA a0 a1 b0 b1 (listV rs)) := by
  obtain ⟨a0, w0, e0, h0⟩ := unI h
  obtain ⟨a1, w1, e1, h1⟩ := unI h0
  obtain ⟨b0, w2, e2, h2⟩ := unE h1
  obtain ⟨b1, w3, e3, h3⟩ := unI h2
  obtain ⟨rs, w4, e4, hr, h4⟩ := unLA h3
  have e := unN h4
  subst e
  subst e4
  subst e3
  subst e2
  subst e1
  subst e0
  exact ⟨a0, a1, b0, b1, rs, hr, rfl⟩
def zeroA : List AVal × List AVal := ((rA0 0 0), (rA1 0 0 (.fsl true 0 [] (some 0))))
def setA (i : Nat) (u : List AVal × List AVal) (v : AVal) : List AVal × List AVal := if (FA.getD i (0, 0, 0)).2.1 = 0 then (u.1.set (FA.getD i (0, 0, 0)).2.2 v, u.2) else (u.1, u.2.set (FA.getD i (0, 0, 0)).2.2 v)
theorem seqG_A (s : ByteArray) : seqG gtA 5 0 zeroA s = (takeAll TA s).map fun y => (setAll setA 0 zeroA y.1, y.2) := by
  rw [seqG_all (fun i => (FA.getD i (0, 0, 0)).1) setA gtA (fun i u s => rfl)]
  rfl
theorem set_A (a0 a1 b0 b1 : Int) (v : AVal) : setAll setA 0 zeroA (vsA a0 a1 b0 b1 v) = ((rA0 a0 a1), (rA1 b0 b1 v)) := by kernel_rfl
theorem iv0A : ivA 0 zeroA := ⟨_, _, _, _, _, rfl, fun _ => rfl⟩
theorem preA {s s' : ByteArray} (h : lB s = UInt8.ofNat 65 :: lB s') : (lB (ByteArray.mk #[65]) <+: lB s) ∧ s.extract (ByteArray.mk #[65]).size s.size = s' := by
  constructor
  · exact ⟨lB s', h.symm⟩
  · have e := mk_of h
    unfold mk at e
    split at e
    · exact congrArg Prod.fst e
    · have := congrArg Prod.snd e; cases this
theorem fromA_pre {s : ByteArray} {r : AVal} {σ' : AState} (h : FOk Try.prog 40 [.str s, .str ⟨#[65]⟩, .slc false 0 1 0 5 none] [.rows false 1 (flA 1 2), .rows true 2 [(rA0 0 0)], .rows true 3 [(rA1 0 0 (.fsl true 0 [] (some 0)))]] r σ') : FOk Try.prog 40 [.str s, .str ⟨#[65]⟩, .slc false 0 1 0 5 (some 5)] [.rows false 1 (flA 1 2), .rows true 2 [[.int .i64 0, .int .i64 0]], .rows false 3 [[.int .i64 0, .int .i64 0, .fsl true 0 [] (some 0)]]] r σ' := by
  have q : FOk Try.prog 40 [.str s, .str ⟨#[65]⟩, .slc false 0 1 0 5 none] [.rows false 1 (flA 1 2), .rows true 2 [[.int .i64 0, .int .i64 0]], .rows false 3 [[.int .i64 0, .int .i64 0, .fsl true 0 [] (some 0)]]] r σ' := FOk.preObj 2 (.rows true 3 [(rA1 0 0 (.fsl true 0 [] (some 0)))]) h (by simp) rfl (fun F w ρ b h => ORel.unpure h rfl)
  exact q.args ⟨Imp.refl _, Imp.refl _, Imp.slcCap _ _ _ _ _ _, trivial⟩
theorem fromA_is {s : ByteArray} (a0 a1 b0 b1 : Int) (rs : List (List AVal)) (h : Is 65 TA s (vsA a0 a1 b0 b1 (listV rs))) : FOk Try.prog 26 [.str s] [] (.tuple [.agg (rA0 a0 a1), .agg (rA1 b0 b1 (listV rs)), .int .i64 0]) [] := by
  obtain ⟨s', h1, h2⟩ := h
  obtain ⟨p1, p2⟩ := preA h1
  refine FOk.wp (FromA_wp a0 a1 b0 b1 rs.isEmpty rs s ?_)
  unfold FromA_T
  have ht := takesA_ok zeroA iv0A s' (((rA0 a0 a1), (rA1 b0 b1 (listV rs))), ⟨#[]⟩) (by rw [seqG_A, h2]; exact congrArg (fun x => some (x, (⟨#[]⟩ : ByteArray))) (set_A a0 a1 b0 b1 (listV rs)))
  rw [← p2] at ht
  exact ⟨fromA_pre (fromA_ok (rA0 0 0) (rA1 0 0 (.fsl true 0 [] (some 0))) (rA0 a0 a1) (rA1 b0 b1 (listV rs)) s ⟨#[65]⟩ p1 ht), rfl, rfl⟩
theorem fromA_none {s : ByteArray} (h : ∀ vs, ¬ Is 65 TA s vs) : FOk Try.prog 26 [.str s] [] (.tuple [.agg [.int .i64 0, .int .i64 0], .agg [.int .i64 0, .int .i64 0, .fsl true 2 [] none], .int .i64 140]) [] := by
  refine FOk.wp (FromNA_wp s ?_)
  unfold FromNA_T
  refine ⟨fromA_pre ?_, rfl, rfl⟩
  by_cases hp : lB (ByteArray.mk #[65]) <+: lB s
  · obtain ⟨t, ht⟩ := hp
    have h1 : lB s = UInt8.ofNat 65 :: lB (bS t) := by rw [lB_bS]; exact ht.symm
    obtain ⟨p1, p2⟩ := preA h1
    cases hs : takeAll TA (bS t) with
    | none =>
      have hx := takesA_no zeroA iv0A (bS t) (by rw [seqG_A, hs]; rfl)
      rw [← p2] at hx
      exact fromA_no (rA0 0 0) (rA1 0 0 (.fsl true 0 [] (some 0))) s ⟨#[65]⟩ p1 hx
    | some y =>
      have hx := takesA_ok zeroA iv0A (bS t) (setAll setA 0 zeroA y.1, y.2) (by rw [seqG_A, hs]; rfl)
      rw [← p2] at hx
      refine fromA_more (rA0 0 0) (rA1 0 0 (.fsl true 0 [] (some 0))) (setAll setA 0 zeroA y.1).1 (setAll setA 0 zeroA y.1).2 s ⟨#[65]⟩ y.2 p1 (fun h0 => h y.1 ⟨bS t, h1, ?_⟩) hx
      have : y.2 = ⟨#[]⟩ := lB_inj (List.eq_nil_of_length_eq_zero (by rw [lB_length]; exact h0))
      rw [hs, ← this]
  · exact fromA_mark (rA0 0 0) (rA1 0 0 (.fsl true 0 [] (some 0))) s ⟨#[65]⟩ hp
end Go.L12
end

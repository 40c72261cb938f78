import Derived.Shelf.Sort.Plain
import Derived.Test.YtpncnfhfjegibaaDoorMP3
section
set_option linter.unusedVariables false
set_option maxRecDepth 100000
namespace Go.MN
open Go Go.Abs Go.Proofs
abbrev vw : ByteArray := ⟨#[119]⟩
abbrev vc : ByteArray := ⟨#[99]⟩
abbrev HU (mem : Ents) (th : List (List AVal)) : AState := [.rows false 2 [[.map 2, .map 3]], .rows true 1 th, .mq [] [(ky vw vc, .ptr 4 2 0 0)] [], .mp true [], .rows false 2 [[.map 5, .slc true 6 2 0 0 none]], .mp true mem, .rows true 2 []]
abbrev rgU (ub : Bool) (rows : List (List AVal)) (off i : Int) : Regs := mkR 123 [(0, .fsl ub 1 rows none), (1, .int .i64 off), (5, .ptr 0 2 0 0), (6, .slc false 1 1 0 16 (some 16)), (7, .int .i64 i)]
theorem usT_1 (ub : Bool) (rows : List (List AVal)) (off : Int) (i : Int) (mem : Ents) (th : List (List AVal))
    (h1 : decide (Int.toNat (bits BinOp.and IntKind.i64 (AVal.toInt (List.getD (List.getD rows (Int.toNat i) []) 0 AVal.any)) 15) < List.length th) = true)
    (h2 : decide (0 ≤ bits BinOp.and IntKind.i64 (AVal.toInt (List.getD (List.getD rows (Int.toNat i) []) 0 AVal.any)) 15 ∧ bits BinOp.and IntKind.i64 (AVal.toInt (List.getD (List.getD rows (Int.toNat i) []) 0 AVal.any)) 15 < (↑16 : Int)) = true)
    (h3 : (!true == AVal.toBool (List.getD (List.getD th (Int.toNat (bits BinOp.and IntKind.i64 (AVal.toInt (List.getD (List.getD rows (Int.toNat i) []) 0 AVal.any)) 15)) []) 0 AVal.any)) = false)
    (h4 : areKinds [Kind.bool] [List.getD (List.getD th (Int.toNat (bits BinOp.and IntKind.i64 (AVal.toInt (List.getD (List.getD rows (Int.toNat i) []) 0 AVal.any)) 15)) []) 0 AVal.any] = true)
    (h5 : FOk Tryd.prog 13 [AVal.ptr 0 2 0 0, AVal.agg [AVal.int IntKind.i64 2, AVal.str (ByteArray.mk #[119]), AVal.str (ByteArray.mk #[99]), AVal.str (rowBytes [[AVal.int IntKind.u8 117], [AVal.int IntKind.u8 (IntKind.wrap IntKind.u8 (IntKind.wrap IntKind.i64 (97 + bits BinOp.and IntKind.i64 (AVal.toInt (List.getD (List.getD rows (Int.toNat i) []) 0 AVal.any)) 15)))]]), AVal.str (ByteArray.mk #[]), AVal.str (ByteArray.mk #[]), AVal.str (ByteArray.mk #[]), AVal.int IntKind.i64 0, AVal.int IntKind.i64 0]] [AObj.rows false 2 [[AVal.map 1, AVal.map 2]], AObj.mq [] [(AVal.agg [AVal.str vw, AVal.str vc], AVal.ptr 3 2 0 0)] [], AObj.mp true [], AObj.rows false 2 [[AVal.map 4, AVal.slc true 5 2 0 0 none]], AObj.mp true mem, AObj.rows true 2 []] (AVal.agg [AVal.int IntKind.i64 90, AVal.int IntKind.i64 0, AVal.fsl true 2 [] none]) [AObj.rows false 2 [[AVal.map 1, AVal.map 2]], AObj.mq [] [(AVal.agg [AVal.str vw, AVal.str vc], AVal.ptr 3 2 0 0)] [], AObj.mp true [], AObj.rows false 2 [[AVal.map 4, AVal.slc true 5 2 0 0 none]], AObj.mp true mem, AObj.rows true 2 []])
    (h6 : decide (Int.toNat i < List.length rows) = true)
    (h7 : areKinds [Kind.int IntKind.i64] [List.getD (List.getD rows (Int.toNat i) []) 0 AVal.any] = true)
    (h8 : decide (0 ≤ i ∧ i < (↑(List.length rows) : Int)) = true)
    (h9 : decide (i < 40) = true)
    (h10 : decide (i < (↑(List.length rows) : Int)) = true) :
    TripN Tryd.prog 0 (loopNo Tryd.f7 0) (rgU ub rows off i) (HU mem th) (AExit.normal) (mkR 123 [(0, AVal.fsl ub 1 rows none), (1, AVal.int IntKind.i64 off), (5, AVal.ptr 0 2 0 0), (6, AVal.slc false 1 1 0 16 (some 16)), (7, AVal.int IntKind.i64 (IntKind.wrap IntKind.i64 (i + 1)))]) ([AObj.rows false 2 [[AVal.map 2, AVal.map 3]], AObj.rows true 1 (List.set th (Int.toNat (bits BinOp.and IntKind.i64 (AVal.toInt (List.getD (List.getD rows (Int.toNat i) []) 0 AVal.any)) 15)) (setCells (List.getD th (Int.toNat (bits BinOp.and IntKind.i64 (AVal.toInt (List.getD (List.getD rows (Int.toNat i) []) 0 AVal.any)) 15)) []) 0 [AVal.tt true])), AObj.mq [] [(AVal.agg [AVal.str vw, AVal.str vc], AVal.ptr 4 2 0 0)] [], AObj.mp true [], AObj.rows false 2 [[AVal.map 5, AVal.slc true 6 2 0 0 none]], AObj.mp true mem, AObj.rows true 2 []]) :=
  evalT (st := St.mk (rgU ub rows off i) (HU mem th) ([Dec.br true, Dec.br true, Dec.use [0, 2, 3, 4, 5, 6] [AVal.ptr 0 2 0 0, AVal.agg [AVal.int IntKind.i64 2, AVal.str (ByteArray.mk #[119]), AVal.str (ByteArray.mk #[99]), AVal.str (rowBytes [[AVal.int IntKind.u8 117], [AVal.int IntKind.u8 (IntKind.wrap IntKind.u8 (IntKind.wrap IntKind.i64 (97 + bits BinOp.and IntKind.i64 (AVal.toInt (List.getD (List.getD rows (Int.toNat i) []) 0 AVal.any)) 15)))]]), AVal.str (ByteArray.mk #[]), AVal.str (ByteArray.mk #[]), AVal.str (ByteArray.mk #[]), AVal.int IntKind.i64 0, AVal.int IntKind.i64 0]] [AObj.rows false 2 [[AVal.map 1, AVal.map 2]], AObj.mq [] [(AVal.agg [AVal.str vw, AVal.str vc], AVal.ptr 3 2 0 0)] [], AObj.mp true [], AObj.rows false 2 [[AVal.map 4, AVal.slc true 5 2 0 0 none]], AObj.mp true mem, AObj.rows true 2 []] (rep 90 0 nilps) [AObj.rows false 2 [[AVal.map 1, AVal.map 2]], AObj.mq [] [(AVal.agg [AVal.str vw, AVal.str vc], AVal.ptr 3 2 0 0)] [], AObj.mp true [], AObj.rows false 2 [[AVal.map 4, AVal.slc true 5 2 0 0 none]], AObj.mp true mem, AObj.rows true 2 []], Dec.br false, Dec.br true, Dec.br false]) []) (st' := St.mk (mkR 123 [(0, AVal.fsl ub 1 rows none), (1, AVal.int IntKind.i64 off), (5, AVal.ptr 0 2 0 0), (6, AVal.slc false 1 1 0 16 (some 16)), (7, AVal.int IntKind.i64 (IntKind.wrap IntKind.i64 (i + 1))), (8, AVal.int IntKind.i64 (bits BinOp.and IntKind.i64 (AVal.toInt (List.getD (List.getD rows (Int.toNat i) []) 0 AVal.any)) 15)), (9, AVal.ptr 8 3 0 0), (21, AVal.int IntKind.i64 i), (22, AVal.fsl ub 1 rows none), (23, AVal.int IntKind.i64 (↑(List.length rows) : Int)), (24, AVal.bool (decide (i < (↑(List.length rows) : Int)))), (25, AVal.tt true), (26, AVal.int IntKind.i64 i), (27, AVal.bool (decide (i < 40))), (28, AVal.tt true), (29, AVal.int IntKind.i64 i), (30, AVal.int IntKind.i64 (IntKind.wrap IntKind.i64 (i + 1))), (31, AVal.fsl ub 1 rows none), (32, AVal.int IntKind.i64 i), (33, AVal.fptr 1 rows (Int.toNat i) 0), (34, AVal.int IntKind.i64 (AVal.toInt (List.getD (List.getD rows (Int.toNat i) []) 0 AVal.any))), (35, AVal.int IntKind.i64 (bits BinOp.and IntKind.i64 (AVal.toInt (List.getD (List.getD rows (Int.toNat i) []) 0 AVal.any)) 15)), (36, AVal.ptr 0 2 0 0), (37, AVal.int IntKind.i64 (bits BinOp.and IntKind.i64 (AVal.toInt (List.getD (List.getD rows (Int.toNat i) []) 0 AVal.any)) 15)), (38, AVal.int IntKind.i64 (IntKind.wrap IntKind.i64 (97 + bits BinOp.and IntKind.i64 (AVal.toInt (List.getD (List.getD rows (Int.toNat i) []) 0 AVal.any)) 15))), (39, AVal.int IntKind.u8 (IntKind.wrap IntKind.u8 (IntKind.wrap IntKind.i64 (97 + bits BinOp.and IntKind.i64 (AVal.toInt (List.getD (List.getD rows (Int.toNat i) []) 0 AVal.any)) 15)))), (40, AVal.slc false 7 1 0 2 (some 2)), (41, AVal.str (rowBytes [[AVal.int IntKind.u8 117], [AVal.int IntKind.u8 (IntKind.wrap IntKind.u8 (IntKind.wrap IntKind.i64 (97 + bits BinOp.and IntKind.i64 (AVal.toInt (List.getD (List.getD rows (Int.toNat i) []) 0 AVal.any)) 15)))]])), (42, AVal.agg [AVal.int IntKind.i64 2, AVal.str (ByteArray.mk #[119]), AVal.str (ByteArray.mk #[99]), AVal.str (rowBytes [[AVal.int IntKind.u8 117], [AVal.int IntKind.u8 (IntKind.wrap IntKind.u8 (IntKind.wrap IntKind.i64 (97 + bits BinOp.and IntKind.i64 (AVal.toInt (List.getD (List.getD rows (Int.toNat i) []) 0 AVal.any)) 15)))]]), AVal.str (ByteArray.mk #[]), AVal.str (ByteArray.mk #[]), AVal.str (ByteArray.mk #[]), AVal.int IntKind.i64 0, AVal.int IntKind.i64 0]), (43, AVal.agg [AVal.int IntKind.i64 90, AVal.int IntKind.i64 0, AVal.fsl true 2 [] none]), (44, AVal.ptr 8 3 0 0), (45, AVal.int IntKind.i64 90), (46, AVal.bool true), (47, AVal.slc false 1 1 0 16 (some 16)), (48, AVal.int IntKind.i64 (bits BinOp.and IntKind.i64 (AVal.toInt (List.getD (List.getD rows (Int.toNat i) []) 0 AVal.any)) 15)), (49, AVal.ptr 1 1 (Int.toNat (bits BinOp.and IntKind.i64 (AVal.toInt (List.getD (List.getD rows (Int.toNat i) []) 0 AVal.any)) 15)) 0), (50, AVal.bool (AVal.toBool (List.getD (List.getD th (Int.toNat (bits BinOp.and IntKind.i64 (AVal.toInt (List.getD (List.getD rows (Int.toNat i) []) 0 AVal.any)) 15)) []) 0 AVal.any))), (51, AVal.bool !true == AVal.toBool (List.getD (List.getD th (Int.toNat (bits BinOp.and IntKind.i64 (AVal.toInt (List.getD (List.getD rows (Int.toNat i) []) 0 AVal.any)) 15)) []) 0 AVal.any)), (52, AVal.tt false), (53, AVal.ptr 8 3 0 0), (54, AVal.int IntKind.i64 90), (55, AVal.bool true), (56, AVal.tt true), (57, AVal.ptr 8 3 0 0), (58, AVal.int IntKind.i64 90), (59, AVal.bool false), (60, AVal.bool false), (61, AVal.tt false), (62, AVal.slc false 1 1 0 16 (some 16)), (63, AVal.int IntKind.i64 (bits BinOp.and IntKind.i64 (AVal.toInt (List.getD (List.getD rows (Int.toNat i) []) 0 AVal.any)) 15)), (64, AVal.ptr 1 1 (Int.toNat (bits BinOp.and IntKind.i64 (AVal.toInt (List.getD (List.getD rows (Int.toNat i) []) 0 AVal.any)) 15)) 0)]) ([AObj.rows false 2 [[AVal.map 2, AVal.map 3]], AObj.rows true 1 (List.set th (Int.toNat (bits BinOp.and IntKind.i64 (AVal.toInt (List.getD (List.getD rows (Int.toNat i) []) 0 AVal.any)) 15)) (setCells (List.getD th (Int.toNat (bits BinOp.and IntKind.i64 (AVal.toInt (List.getD (List.getD rows (Int.toNat i) []) 0 AVal.any)) 15)) []) 0 [AVal.tt true])), AObj.mq [] [(AVal.agg [AVal.str vw, AVal.str vc], AVal.ptr 4 2 0 0)] [], AObj.mp true [], AObj.rows false 2 [[AVal.map 5, AVal.slc true 6 2 0 0 none]], AObj.mp true mem, AObj.rows true 2 [], AObj.rows true 1 [[AVal.int IntKind.u8 117], [AVal.int IntKind.u8 (IntKind.wrap IntKind.u8 (IntKind.wrap IntKind.i64 (97 + bits BinOp.and IntKind.i64 (AVal.toInt (List.getD (List.getD rows (Int.toNat i) []) 0 AVal.any)) 15)))]], AObj.rows false 3 [[AVal.int IntKind.i64 90, AVal.int IntKind.i64 0, AVal.fsl true 2 [] none]]]) ([]) ((decide (Int.toNat (bits BinOp.and IntKind.i64 (AVal.toInt (List.getD (List.getD rows (Int.toNat i) []) 0 AVal.any)) 15) < List.length th) = true) :: (tr 1 ++ ((decide (0 ≤ bits BinOp.and IntKind.i64 (AVal.toInt (List.getD (List.getD rows (Int.toNat i) []) 0 AVal.any)) 15 ∧ bits BinOp.and IntKind.i64 (AVal.toInt (List.getD (List.getD rows (Int.toNat i) []) 0 AVal.any)) 15 < (↑16 : Int)) = true) :: ((false = false) :: (tr 23 ++ (((!true == AVal.toBool (List.getD (List.getD th (Int.toNat (bits BinOp.and IntKind.i64 (AVal.toInt (List.getD (List.getD rows (Int.toNat i) []) 0 AVal.any)) 15)) []) 0 AVal.any)) = false) :: (tr 9 ++ ((decide (Int.toNat (bits BinOp.and IntKind.i64 (AVal.toInt (List.getD (List.getD rows (Int.toNat i) []) 0 AVal.any)) 15) < List.length th) = true) :: (tr 1 ++ ((areKinds [Kind.bool] [List.getD (List.getD th (Int.toNat (bits BinOp.and IntKind.i64 (AVal.toInt (List.getD (List.getD rows (Int.toNat i) []) 0 AVal.any)) 15)) []) 0 AVal.any] = true) :: (tr 2 ++ ((decide (0 ≤ bits BinOp.and IntKind.i64 (AVal.toInt (List.getD (List.getD rows (Int.toNat i) []) 0 AVal.any)) 15 ∧ bits BinOp.and IntKind.i64 (AVal.toInt (List.getD (List.getD rows (Int.toNat i) []) 0 AVal.any)) 15 < (↑16 : Int)) = true) :: (tr 15 ++ ((Owed.use (owed Tryd.prog 0) 13 [0, 2, 3, 4, 5, 6] [AVal.ptr 0 2 0 0, AVal.agg [AVal.int IntKind.i64 2, AVal.str (ByteArray.mk #[119]), AVal.str (ByteArray.mk #[99]), AVal.str (rowBytes [[AVal.int IntKind.u8 117], [AVal.int IntKind.u8 (IntKind.wrap IntKind.u8 (IntKind.wrap IntKind.i64 (97 + bits BinOp.and IntKind.i64 (AVal.toInt (List.getD (List.getD rows (Int.toNat i) []) 0 AVal.any)) 15)))]]), AVal.str (ByteArray.mk #[]), AVal.str (ByteArray.mk #[]), AVal.str (ByteArray.mk #[]), AVal.int IntKind.i64 0, AVal.int IntKind.i64 0]] [AObj.rows false 2 [[AVal.map 2, AVal.map 3]], AObj.rows true 1 th, AObj.mq [] [(AVal.agg [AVal.str vw, AVal.str vc], AVal.ptr 4 2 0 0)] [], AObj.mp true [], AObj.rows false 2 [[AVal.map 5, AVal.slc true 6 2 0 0 none]], AObj.mp true mem, AObj.rows true 2 [], AObj.rows true 1 [[AVal.int IntKind.u8 117], [AVal.int IntKind.u8 (IntKind.wrap IntKind.u8 (IntKind.wrap IntKind.i64 (97 + bits BinOp.and IntKind.i64 (AVal.toInt (List.getD (List.getD rows (Int.toNat i) []) 0 AVal.any)) 15)))]]] [AVal.ptr 0 2 0 0, AVal.agg [AVal.int IntKind.i64 2, AVal.str (ByteArray.mk #[119]), AVal.str (ByteArray.mk #[99]), AVal.str (rowBytes [[AVal.int IntKind.u8 117], [AVal.int IntKind.u8 (IntKind.wrap IntKind.u8 (IntKind.wrap IntKind.i64 (97 + bits BinOp.and IntKind.i64 (AVal.toInt (List.getD (List.getD rows (Int.toNat i) []) 0 AVal.any)) 15)))]]), AVal.str (ByteArray.mk #[]), AVal.str (ByteArray.mk #[]), AVal.str (ByteArray.mk #[]), AVal.int IntKind.i64 0, AVal.int IntKind.i64 0]] [AObj.rows false 2 [[AVal.map 1, AVal.map 2]], AObj.mq [] [(AVal.agg [AVal.str vw, AVal.str vc], AVal.ptr 3 2 0 0)] [], AObj.mp true [], AObj.rows false 2 [[AVal.map 4, AVal.slc true 5 2 0 0 none]], AObj.mp true mem, AObj.rows true 2 []] (AVal.agg [AVal.int IntKind.i64 90, AVal.int IntKind.i64 0, AVal.fsl true 2 [] none]) [AObj.rows false 2 [[AVal.map 1, AVal.map 2]], AObj.mq [] [(AVal.agg [AVal.str vw, AVal.str vc], AVal.ptr 3 2 0 0)] [], AObj.mp true [], AObj.rows false 2 [[AVal.map 4, AVal.slc true 5 2 0 0 none]], AObj.mp true mem, AObj.rows true 2 []]) :: (tr 3 ++ ((decide (Int.toNat i < List.length rows) = true) :: (tr 1 ++ ((areKinds [Kind.int IntKind.i64] [List.getD (List.getD rows (Int.toNat i) []) 0 AVal.any] = true) :: ((decide (0 ≤ i ∧ i < (↑(List.length rows) : Int)) = true) :: ((decide (i < 40) = true) :: ((decide (i < (↑(List.length rows) : Int)) = true) :: [])))))))))))))))))))))) followed (by kernel_rfl) (allP_of ⟨h1, (trC 1 ⟨h2, ⟨rfl, (trC 23 ⟨h3, (trC 9 ⟨h1, (trC 1 ⟨h4, (trC 2 ⟨h2, (trC 15 ⟨⟨h5, rfl, rfl, rfl⟩, (trC 3 ⟨h6, (trC 1 ⟨h7, ⟨h8, ⟨h9, ⟨h10, trivial⟩⟩⟩⟩)⟩)⟩)⟩)⟩)⟩)⟩)⟩⟩)⟩) (keepM 123 [0, 1, 5, 6, 7]) ([0, 1, 2, 3, 4, 5, 6]) (by kernel_rfl) (by kernel_rfl) (by kernel_rfl)

def usT_T (ub : Bool) (rows : List (List AVal)) (off : Int) (i : Int) (mem : Ents) (th : List (List AVal)) (Q : AExit → Regs → AState → Prop) : Prop := (decide (i < (↑(List.length rows) : Int)) = true) ∧ (decide (i < 40) = true) ∧ (decide (0 ≤ i ∧ i < (↑(List.length rows) : Int)) = true) ∧ (areKinds [Kind.int IntKind.i64] [List.getD (List.getD rows (Int.toNat i) []) 0 AVal.any] = true) ∧ (decide (Int.toNat i < List.length rows) = true) ∧ (FOk Tryd.prog 13 [AVal.ptr 0 2 0 0, AVal.agg [AVal.int IntKind.i64 2, AVal.str (ByteArray.mk #[119]), AVal.str (ByteArray.mk #[99]), AVal.str (rowBytes [[AVal.int IntKind.u8 117], [AVal.int IntKind.u8 (IntKind.wrap IntKind.u8 (IntKind.wrap IntKind.i64 (97 + bits BinOp.and IntKind.i64 (AVal.toInt (List.getD (List.getD rows (Int.toNat i) []) 0 AVal.any)) 15)))]]), AVal.str (ByteArray.mk #[]), AVal.str (ByteArray.mk #[]), AVal.str (ByteArray.mk #[]), AVal.int IntKind.i64 0, AVal.int IntKind.i64 0]] [AObj.rows false 2 [[AVal.map 1, AVal.map 2]], AObj.mq [] [(AVal.agg [AVal.str vw, AVal.str vc], AVal.ptr 3 2 0 0)] [], AObj.mp true [], AObj.rows false 2 [[AVal.map 4, AVal.slc true 5 2 0 0 none]], AObj.mp true mem, AObj.rows true 2 []] (AVal.agg [AVal.int IntKind.i64 90, AVal.int IntKind.i64 0, AVal.fsl true 2 [] none]) [AObj.rows false 2 [[AVal.map 1, AVal.map 2]], AObj.mq [] [(AVal.agg [AVal.str vw, AVal.str vc], AVal.ptr 3 2 0 0)] [], AObj.mp true [], AObj.rows false 2 [[AVal.map 4, AVal.slc true 5 2 0 0 none]], AObj.mp true mem, AObj.rows true 2 []]) ∧ (decide (0 ≤ bits BinOp.and IntKind.i64 (AVal.toInt (List.getD (List.getD rows (Int.toNat i) []) 0 AVal.any)) 15 ∧ bits BinOp.and IntKind.i64 (AVal.toInt (List.getD (List.getD rows (Int.toNat i) []) 0 AVal.any)) 15 < (↑16 : Int)) = true) ∧ (areKinds [Kind.bool] [List.getD (List.getD th (Int.toNat (bits BinOp.and IntKind.i64 (AVal.toInt (List.getD (List.getD rows (Int.toNat i) []) 0 AVal.any)) 15)) []) 0 AVal.any] = true) ∧ (decide (Int.toNat (bits BinOp.and IntKind.i64 (AVal.toInt (List.getD (List.getD rows (Int.toNat i) []) 0 AVal.any)) 15) < List.length th) = true) ∧ ((!true == AVal.toBool (List.getD (List.getD th (Int.toNat (bits BinOp.and IntKind.i64 (AVal.toInt (List.getD (List.getD rows (Int.toNat i) []) 0 AVal.any)) 15)) []) 0 AVal.any)) = false) ∧ Q (AExit.normal) (mkR 123 [(0, AVal.fsl ub 1 rows none), (1, AVal.int IntKind.i64 off), (5, AVal.ptr 0 2 0 0), (6, AVal.slc false 1 1 0 16 (some 16)), (7, AVal.int IntKind.i64 (IntKind.wrap IntKind.i64 (i + 1)))]) ([AObj.rows false 2 [[AVal.map 2, AVal.map 3]], AObj.rows true 1 (List.set th (Int.toNat (bits BinOp.and IntKind.i64 (AVal.toInt (List.getD (List.getD rows (Int.toNat i) []) 0 AVal.any)) 15)) (setCells (List.getD th (Int.toNat (bits BinOp.and IntKind.i64 (AVal.toInt (List.getD (List.getD rows (Int.toNat i) []) 0 AVal.any)) 15)) []) 0 [AVal.tt true])), AObj.mq [] [(AVal.agg [AVal.str vw, AVal.str vc], AVal.ptr 4 2 0 0)] [], AObj.mp true [], AObj.rows false 2 [[AVal.map 5, AVal.slc true 6 2 0 0 none]], AObj.mp true mem, AObj.rows true 2 []])
theorem usT_wp (ub : Bool) (rows : List (List AVal)) (off : Int) (i : Int) (mem : Ents) (th : List (List AVal)) {Q : AExit → Regs → AState → Prop} (h : usT_T ub rows off i mem th Q) : ∃ e rg' σ', TripN Tryd.prog 0 (loopNo Tryd.f7 0) (rgU ub rows off i) (HU mem th) e rg' σ' ∧ Q e rg' σ' :=
  ⟨_, _, _, usT_1 ub rows off i mem th (h.2.2.2.2.2.2.2.2.1) (h.2.2.2.2.2.2.1) (h.2.2.2.2.2.2.2.2.2.1) (h.2.2.2.2.2.2.2.1) (h.2.2.2.2.2.1) (h.2.2.2.2.1) (h.2.2.2.1) (h.2.2.1) (h.2.1) (h.1), h.2.2.2.2.2.2.2.2.2.2⟩


theorem usN_1 (ub : Bool) (rows : List (List AVal)) (off : Int) (i : Int) (mem : Ents) (mem2 : Ents) (th : List (List AVal))
    (h1 : decide (Int.toNat (bits BinOp.and IntKind.i64 (AVal.toInt (List.getD (List.getD rows (Int.toNat i) []) 0 AVal.any)) 15) < List.length th) = true)
    (h2 : decide (0 ≤ bits BinOp.and IntKind.i64 (AVal.toInt (List.getD (List.getD rows (Int.toNat i) []) 0 AVal.any)) 15 ∧ bits BinOp.and IntKind.i64 (AVal.toInt (List.getD (List.getD rows (Int.toNat i) []) 0 AVal.any)) 15 < (↑16 : Int)) = true)
    (h3 : (!false == AVal.toBool (List.getD (List.getD th (Int.toNat (bits BinOp.and IntKind.i64 (AVal.toInt (List.getD (List.getD rows (Int.toNat i) []) 0 AVal.any)) 15)) []) 0 AVal.any)) = false)
    (h4 : areKinds [Kind.bool] [List.getD (List.getD th (Int.toNat (bits BinOp.and IntKind.i64 (AVal.toInt (List.getD (List.getD rows (Int.toNat i) []) 0 AVal.any)) 15)) []) 0 AVal.any] = true)
    (h5 : FOk Tryd.prog 13 [AVal.ptr 0 2 0 0, AVal.agg [AVal.int IntKind.i64 2, AVal.str (ByteArray.mk #[119]), AVal.str (ByteArray.mk #[99]), AVal.str (rowBytes [[AVal.int IntKind.u8 117], [AVal.int IntKind.u8 (IntKind.wrap IntKind.u8 (IntKind.wrap IntKind.i64 (97 + bits BinOp.and IntKind.i64 (AVal.toInt (List.getD (List.getD rows (Int.toNat i) []) 0 AVal.any)) 15)))]]), AVal.str (ByteArray.mk #[]), AVal.str (ByteArray.mk #[]), AVal.str (ByteArray.mk #[]), AVal.int IntKind.i64 0, AVal.int IntKind.i64 0]] [AObj.rows false 2 [[AVal.map 1, AVal.map 2]], AObj.mq [] [(AVal.agg [AVal.str vw, AVal.str vc], AVal.ptr 3 2 0 0)] [], AObj.mp true [], AObj.rows false 2 [[AVal.map 4, AVal.slc true 5 2 0 0 none]], AObj.mp true mem, AObj.rows true 2 []] (AVal.agg [AVal.int IntKind.i64 0, AVal.int IntKind.i64 0, AVal.fsl true 2 [] none]) [AObj.rows false 2 [[AVal.map 1, AVal.map 2]], AObj.mq [] [(AVal.agg [AVal.str vw, AVal.str vc], AVal.ptr 3 2 0 0)] [], AObj.mp true [], AObj.rows false 2 [[AVal.map 4, AVal.slc true 5 2 0 0 none]], AObj.mp true mem2, AObj.rows true 2 []])
    (h6 : decide (Int.toNat i < List.length rows) = true)
    (h7 : areKinds [Kind.int IntKind.i64] [List.getD (List.getD rows (Int.toNat i) []) 0 AVal.any] = true)
    (h8 : decide (0 ≤ i ∧ i < (↑(List.length rows) : Int)) = true)
    (h9 : decide (i < 40) = true)
    (h10 : decide (i < (↑(List.length rows) : Int)) = true) :
    TripN Tryd.prog 0 (loopNo Tryd.f7 0) (rgU ub rows off i) (HU mem th) (AExit.normal) (mkR 123 [(0, AVal.fsl ub 1 rows none), (1, AVal.int IntKind.i64 off), (5, AVal.ptr 0 2 0 0), (6, AVal.slc false 1 1 0 16 (some 16)), (7, AVal.int IntKind.i64 (IntKind.wrap IntKind.i64 (i + 1)))]) ([AObj.rows false 2 [[AVal.map 2, AVal.map 3]], AObj.rows true 1 (List.set th (Int.toNat (bits BinOp.and IntKind.i64 (AVal.toInt (List.getD (List.getD rows (Int.toNat i) []) 0 AVal.any)) 15)) (setCells (List.getD th (Int.toNat (bits BinOp.and IntKind.i64 (AVal.toInt (List.getD (List.getD rows (Int.toNat i) []) 0 AVal.any)) 15)) []) 0 [AVal.tt true])), AObj.mq [] [(AVal.agg [AVal.str vw, AVal.str vc], AVal.ptr 4 2 0 0)] [], AObj.mp true [], AObj.rows false 2 [[AVal.map 5, AVal.slc true 6 2 0 0 none]], AObj.mp true mem2, AObj.rows true 2 []]) :=
  evalT (st := St.mk (rgU ub rows off i) (HU mem th) ([Dec.br true, Dec.br true, Dec.use [0, 2, 3, 4, 5, 6] [AVal.ptr 0 2 0 0, AVal.agg [AVal.int IntKind.i64 2, AVal.str (ByteArray.mk #[119]), AVal.str (ByteArray.mk #[99]), AVal.str (rowBytes [[AVal.int IntKind.u8 117], [AVal.int IntKind.u8 (IntKind.wrap IntKind.u8 (IntKind.wrap IntKind.i64 (97 + bits BinOp.and IntKind.i64 (AVal.toInt (List.getD (List.getD rows (Int.toNat i) []) 0 AVal.any)) 15)))]]), AVal.str (ByteArray.mk #[]), AVal.str (ByteArray.mk #[]), AVal.str (ByteArray.mk #[]), AVal.int IntKind.i64 0, AVal.int IntKind.i64 0]] [AObj.rows false 2 [[AVal.map 1, AVal.map 2]], AObj.mq [] [(AVal.agg [AVal.str vw, AVal.str vc], AVal.ptr 3 2 0 0)] [], AObj.mp true [], AObj.rows false 2 [[AVal.map 4, AVal.slc true 5 2 0 0 none]], AObj.mp true mem, AObj.rows true 2 []] (rep 0 0 nilps) (H6 [] [] vw vc [] mem2 true []), Dec.br false, Dec.br false]) []) (st' := St.mk (mkR 123 [(0, AVal.fsl ub 1 rows none), (1, AVal.int IntKind.i64 off), (5, AVal.ptr 0 2 0 0), (6, AVal.slc false 1 1 0 16 (some 16)), (7, AVal.int IntKind.i64 (IntKind.wrap IntKind.i64 (i + 1))), (8, AVal.int IntKind.i64 (bits BinOp.and IntKind.i64 (AVal.toInt (List.getD (List.getD rows (Int.toNat i) []) 0 AVal.any)) 15)), (9, AVal.ptr 8 3 0 0), (21, AVal.int IntKind.i64 i), (22, AVal.fsl ub 1 rows none), (23, AVal.int IntKind.i64 (↑(List.length rows) : Int)), (24, AVal.bool (decide (i < (↑(List.length rows) : Int)))), (25, AVal.tt true), (26, AVal.int IntKind.i64 i), (27, AVal.bool (decide (i < 40))), (28, AVal.tt true), (29, AVal.int IntKind.i64 i), (30, AVal.int IntKind.i64 (IntKind.wrap IntKind.i64 (i + 1))), (31, AVal.fsl ub 1 rows none), (32, AVal.int IntKind.i64 i), (33, AVal.fptr 1 rows (Int.toNat i) 0), (34, AVal.int IntKind.i64 (AVal.toInt (List.getD (List.getD rows (Int.toNat i) []) 0 AVal.any))), (35, AVal.int IntKind.i64 (bits BinOp.and IntKind.i64 (AVal.toInt (List.getD (List.getD rows (Int.toNat i) []) 0 AVal.any)) 15)), (36, AVal.ptr 0 2 0 0), (37, AVal.int IntKind.i64 (bits BinOp.and IntKind.i64 (AVal.toInt (List.getD (List.getD rows (Int.toNat i) []) 0 AVal.any)) 15)), (38, AVal.int IntKind.i64 (IntKind.wrap IntKind.i64 (97 + bits BinOp.and IntKind.i64 (AVal.toInt (List.getD (List.getD rows (Int.toNat i) []) 0 AVal.any)) 15))), (39, AVal.int IntKind.u8 (IntKind.wrap IntKind.u8 (IntKind.wrap IntKind.i64 (97 + bits BinOp.and IntKind.i64 (AVal.toInt (List.getD (List.getD rows (Int.toNat i) []) 0 AVal.any)) 15)))), (40, AVal.slc false 7 1 0 2 (some 2)), (41, AVal.str (rowBytes [[AVal.int IntKind.u8 117], [AVal.int IntKind.u8 (IntKind.wrap IntKind.u8 (IntKind.wrap IntKind.i64 (97 + bits BinOp.and IntKind.i64 (AVal.toInt (List.getD (List.getD rows (Int.toNat i) []) 0 AVal.any)) 15)))]])), (42, AVal.agg [AVal.int IntKind.i64 2, AVal.str (ByteArray.mk #[119]), AVal.str (ByteArray.mk #[99]), AVal.str (rowBytes [[AVal.int IntKind.u8 117], [AVal.int IntKind.u8 (IntKind.wrap IntKind.u8 (IntKind.wrap IntKind.i64 (97 + bits BinOp.and IntKind.i64 (AVal.toInt (List.getD (List.getD rows (Int.toNat i) []) 0 AVal.any)) 15)))]]), AVal.str (ByteArray.mk #[]), AVal.str (ByteArray.mk #[]), AVal.str (ByteArray.mk #[]), AVal.int IntKind.i64 0, AVal.int IntKind.i64 0]), (43, AVal.agg [AVal.int IntKind.i64 0, AVal.int IntKind.i64 0, AVal.fsl true 2 [] none]), (44, AVal.ptr 8 3 0 0), (45, AVal.int IntKind.i64 0), (46, AVal.bool false), (47, AVal.slc false 1 1 0 16 (some 16)), (48, AVal.int IntKind.i64 (bits BinOp.and IntKind.i64 (AVal.toInt (List.getD (List.getD rows (Int.toNat i) []) 0 AVal.any)) 15)), (49, AVal.ptr 1 1 (Int.toNat (bits BinOp.and IntKind.i64 (AVal.toInt (List.getD (List.getD rows (Int.toNat i) []) 0 AVal.any)) 15)) 0), (50, AVal.bool (AVal.toBool (List.getD (List.getD th (Int.toNat (bits BinOp.and IntKind.i64 (AVal.toInt (List.getD (List.getD rows (Int.toNat i) []) 0 AVal.any)) 15)) []) 0 AVal.any))), (51, AVal.bool !false == AVal.toBool (List.getD (List.getD th (Int.toNat (bits BinOp.and IntKind.i64 (AVal.toInt (List.getD (List.getD rows (Int.toNat i) []) 0 AVal.any)) 15)) []) 0 AVal.any)), (52, AVal.tt false), (53, AVal.ptr 8 3 0 0), (54, AVal.int IntKind.i64 0), (55, AVal.bool false), (56, AVal.tt false), (57, AVal.tuple []), (58, AVal.tuple []), (59, AVal.tuple []), (60, AVal.tt false), (61, AVal.tt false), (62, AVal.slc false 1 1 0 16 (some 16)), (63, AVal.int IntKind.i64 (bits BinOp.and IntKind.i64 (AVal.toInt (List.getD (List.getD rows (Int.toNat i) []) 0 AVal.any)) 15)), (64, AVal.ptr 1 1 (Int.toNat (bits BinOp.and IntKind.i64 (AVal.toInt (List.getD (List.getD rows (Int.toNat i) []) 0 AVal.any)) 15)) 0)]) ([AObj.rows false 2 [[AVal.map 2, AVal.map 3]], AObj.rows true 1 (List.set th (Int.toNat (bits BinOp.and IntKind.i64 (AVal.toInt (List.getD (List.getD rows (Int.toNat i) []) 0 AVal.any)) 15)) (setCells (List.getD th (Int.toNat (bits BinOp.and IntKind.i64 (AVal.toInt (List.getD (List.getD rows (Int.toNat i) []) 0 AVal.any)) 15)) []) 0 [AVal.tt true])), AObj.mq [] [(AVal.agg [AVal.str vw, AVal.str vc], AVal.ptr 4 2 0 0)] [], AObj.mp true [], AObj.rows false 2 [[AVal.map 5, AVal.slc true 6 2 0 0 none]], AObj.mp true mem2, AObj.rows true 2 [], AObj.rows true 1 [[AVal.int IntKind.u8 117], [AVal.int IntKind.u8 (IntKind.wrap IntKind.u8 (IntKind.wrap IntKind.i64 (97 + bits BinOp.and IntKind.i64 (AVal.toInt (List.getD (List.getD rows (Int.toNat i) []) 0 AVal.any)) 15)))]], AObj.rows false 3 [[AVal.int IntKind.i64 0, AVal.int IntKind.i64 0, AVal.fsl true 2 [] none]]]) ([]) ((decide (Int.toNat (bits BinOp.and IntKind.i64 (AVal.toInt (List.getD (List.getD rows (Int.toNat i) []) 0 AVal.any)) 15) < List.length th) = true) :: (tr 1 ++ ((decide (0 ≤ bits BinOp.and IntKind.i64 (AVal.toInt (List.getD (List.getD rows (Int.toNat i) []) 0 AVal.any)) 15 ∧ bits BinOp.and IntKind.i64 (AVal.toInt (List.getD (List.getD rows (Int.toNat i) []) 0 AVal.any)) 15 < (↑16 : Int)) = true) :: (tr 10 ++ ((false = false) :: (tr 10 ++ (((!false == AVal.toBool (List.getD (List.getD th (Int.toNat (bits BinOp.and IntKind.i64 (AVal.toInt (List.getD (List.getD rows (Int.toNat i) []) 0 AVal.any)) 15)) []) 0 AVal.any)) = false) :: (tr 9 ++ ((decide (Int.toNat (bits BinOp.and IntKind.i64 (AVal.toInt (List.getD (List.getD rows (Int.toNat i) []) 0 AVal.any)) 15) < List.length th) = true) :: (tr 1 ++ ((areKinds [Kind.bool] [List.getD (List.getD th (Int.toNat (bits BinOp.and IntKind.i64 (AVal.toInt (List.getD (List.getD rows (Int.toNat i) []) 0 AVal.any)) 15)) []) 0 AVal.any] = true) :: (tr 2 ++ ((decide (0 ≤ bits BinOp.and IntKind.i64 (AVal.toInt (List.getD (List.getD rows (Int.toNat i) []) 0 AVal.any)) 15 ∧ bits BinOp.and IntKind.i64 (AVal.toInt (List.getD (List.getD rows (Int.toNat i) []) 0 AVal.any)) 15 < (↑16 : Int)) = true) :: (tr 15 ++ ((Owed.use (owed Tryd.prog 0) 13 [0, 2, 3, 4, 5, 6] [AVal.ptr 0 2 0 0, AVal.agg [AVal.int IntKind.i64 2, AVal.str (ByteArray.mk #[119]), AVal.str (ByteArray.mk #[99]), AVal.str (rowBytes [[AVal.int IntKind.u8 117], [AVal.int IntKind.u8 (IntKind.wrap IntKind.u8 (IntKind.wrap IntKind.i64 (97 + bits BinOp.and IntKind.i64 (AVal.toInt (List.getD (List.getD rows (Int.toNat i) []) 0 AVal.any)) 15)))]]), AVal.str (ByteArray.mk #[]), AVal.str (ByteArray.mk #[]), AVal.str (ByteArray.mk #[]), AVal.int IntKind.i64 0, AVal.int IntKind.i64 0]] [AObj.rows false 2 [[AVal.map 2, AVal.map 3]], AObj.rows true 1 th, AObj.mq [] [(AVal.agg [AVal.str vw, AVal.str vc], AVal.ptr 4 2 0 0)] [], AObj.mp true [], AObj.rows false 2 [[AVal.map 5, AVal.slc true 6 2 0 0 none]], AObj.mp true mem, AObj.rows true 2 [], AObj.rows true 1 [[AVal.int IntKind.u8 117], [AVal.int IntKind.u8 (IntKind.wrap IntKind.u8 (IntKind.wrap IntKind.i64 (97 + bits BinOp.and IntKind.i64 (AVal.toInt (List.getD (List.getD rows (Int.toNat i) []) 0 AVal.any)) 15)))]]] [AVal.ptr 0 2 0 0, AVal.agg [AVal.int IntKind.i64 2, AVal.str (ByteArray.mk #[119]), AVal.str (ByteArray.mk #[99]), AVal.str (rowBytes [[AVal.int IntKind.u8 117], [AVal.int IntKind.u8 (IntKind.wrap IntKind.u8 (IntKind.wrap IntKind.i64 (97 + bits BinOp.and IntKind.i64 (AVal.toInt (List.getD (List.getD rows (Int.toNat i) []) 0 AVal.any)) 15)))]]), AVal.str (ByteArray.mk #[]), AVal.str (ByteArray.mk #[]), AVal.str (ByteArray.mk #[]), AVal.int IntKind.i64 0, AVal.int IntKind.i64 0]] [AObj.rows false 2 [[AVal.map 1, AVal.map 2]], AObj.mq [] [(AVal.agg [AVal.str vw, AVal.str vc], AVal.ptr 3 2 0 0)] [], AObj.mp true [], AObj.rows false 2 [[AVal.map 4, AVal.slc true 5 2 0 0 none]], AObj.mp true mem, AObj.rows true 2 []] (AVal.agg [AVal.int IntKind.i64 0, AVal.int IntKind.i64 0, AVal.fsl true 2 [] none]) [AObj.rows false 2 [[AVal.map 1, AVal.map 2]], AObj.mq [] [(AVal.agg [AVal.str vw, AVal.str vc], AVal.ptr 3 2 0 0)] [], AObj.mp true [], AObj.rows false 2 [[AVal.map 4, AVal.slc true 5 2 0 0 none]], AObj.mp true mem2, AObj.rows true 2 []]) :: (tr 3 ++ ((decide (Int.toNat i < List.length rows) = true) :: (tr 1 ++ ((areKinds [Kind.int IntKind.i64] [List.getD (List.getD rows (Int.toNat i) []) 0 AVal.any] = true) :: ((decide (0 ≤ i ∧ i < (↑(List.length rows) : Int)) = true) :: ((decide (i < 40) = true) :: ((decide (i < (↑(List.length rows) : Int)) = true) :: []))))))))))))))))))))))) followed (by kernel_rfl) (allP_of ⟨h1, (trC 1 ⟨h2, (trC 10 ⟨rfl, (trC 10 ⟨h3, (trC 9 ⟨h1, (trC 1 ⟨h4, (trC 2 ⟨h2, (trC 15 ⟨⟨h5, rfl, rfl, rfl⟩, (trC 3 ⟨h6, (trC 1 ⟨h7, ⟨h8, ⟨h9, ⟨h10, trivial⟩⟩⟩⟩)⟩)⟩)⟩)⟩)⟩)⟩)⟩)⟩)⟩) (keepM 123 [0, 1, 5, 6, 7]) ([0, 1, 2, 3, 4, 5, 6]) (by kernel_rfl) (by kernel_rfl) (by kernel_rfl)

def usN_T (ub : Bool) (rows : List (List AVal)) (off : Int) (i : Int) (mem : Ents) (mem2 : Ents) (th : List (List AVal)) (Q : AExit → Regs → AState → Prop) : Prop := (decide (i < (↑(List.length rows) : Int)) = true) ∧ (decide (i < 40) = true) ∧ (decide (0 ≤ i ∧ i < (↑(List.length rows) : Int)) = true) ∧ (areKinds [Kind.int IntKind.i64] [List.getD (List.getD rows (Int.toNat i) []) 0 AVal.any] = true) ∧ (decide (Int.toNat i < List.length rows) = true) ∧ (FOk Tryd.prog 13 [AVal.ptr 0 2 0 0, AVal.agg [AVal.int IntKind.i64 2, AVal.str (ByteArray.mk #[119]), AVal.str (ByteArray.mk #[99]), AVal.str (rowBytes [[AVal.int IntKind.u8 117], [AVal.int IntKind.u8 (IntKind.wrap IntKind.u8 (IntKind.wrap IntKind.i64 (97 + bits BinOp.and IntKind.i64 (AVal.toInt (List.getD (List.getD rows (Int.toNat i) []) 0 AVal.any)) 15)))]]), AVal.str (ByteArray.mk #[]), AVal.str (ByteArray.mk #[]), AVal.str (ByteArray.mk #[]), AVal.int IntKind.i64 0, AVal.int IntKind.i64 0]] [AObj.rows false 2 [[AVal.map 1, AVal.map 2]], AObj.mq [] [(AVal.agg [AVal.str vw, AVal.str vc], AVal.ptr 3 2 0 0)] [], AObj.mp true [], AObj.rows false 2 [[AVal.map 4, AVal.slc true 5 2 0 0 none]], AObj.mp true mem, AObj.rows true 2 []] (AVal.agg [AVal.int IntKind.i64 0, AVal.int IntKind.i64 0, AVal.fsl true 2 [] none]) [AObj.rows false 2 [[AVal.map 1, AVal.map 2]], AObj.mq [] [(AVal.agg [AVal.str vw, AVal.str vc], AVal.ptr 3 2 0 0)] [], AObj.mp true [], AObj.rows false 2 [[AVal.map 4, AVal.slc true 5 2 0 0 none]], AObj.mp true mem2, AObj.rows true 2 []]) ∧ (decide (0 ≤ bits BinOp.and IntKind.i64 (AVal.toInt (List.getD (List.getD rows (Int.toNat i) []) 0 AVal.any)) 15 ∧ bits BinOp.and IntKind.i64 (AVal.toInt (List.getD (List.getD rows (Int.toNat i) []) 0 AVal.any)) 15 < (↑16 : Int)) = true) ∧ (areKinds [Kind.bool] [List.getD (List.getD th (Int.toNat (bits BinOp.and IntKind.i64 (AVal.toInt (List.getD (List.getD rows (Int.toNat i) []) 0 AVal.any)) 15)) []) 0 AVal.any] = true) ∧ (decide (Int.toNat (bits BinOp.and IntKind.i64 (AVal.toInt (List.getD (List.getD rows (Int.toNat i) []) 0 AVal.any)) 15) < List.length th) = true) ∧ ((!false == AVal.toBool (List.getD (List.getD th (Int.toNat (bits BinOp.and IntKind.i64 (AVal.toInt (List.getD (List.getD rows (Int.toNat i) []) 0 AVal.any)) 15)) []) 0 AVal.any)) = false) ∧ Q (AExit.normal) (mkR 123 [(0, AVal.fsl ub 1 rows none), (1, AVal.int IntKind.i64 off), (5, AVal.ptr 0 2 0 0), (6, AVal.slc false 1 1 0 16 (some 16)), (7, AVal.int IntKind.i64 (IntKind.wrap IntKind.i64 (i + 1)))]) ([AObj.rows false 2 [[AVal.map 2, AVal.map 3]], AObj.rows true 1 (List.set th (Int.toNat (bits BinOp.and IntKind.i64 (AVal.toInt (List.getD (List.getD rows (Int.toNat i) []) 0 AVal.any)) 15)) (setCells (List.getD th (Int.toNat (bits BinOp.and IntKind.i64 (AVal.toInt (List.getD (List.getD rows (Int.toNat i) []) 0 AVal.any)) 15)) []) 0 [AVal.tt true])), AObj.mq [] [(AVal.agg [AVal.str vw, AVal.str vc], AVal.ptr 4 2 0 0)] [], AObj.mp true [], AObj.rows false 2 [[AVal.map 5, AVal.slc true 6 2 0 0 none]], AObj.mp true mem2, AObj.rows true 2 []])
theorem usN_wp (ub : Bool) (rows : List (List AVal)) (off : Int) (i : Int) (mem : Ents) (mem2 : Ents) (th : List (List AVal)) {Q : AExit → Regs → AState → Prop} (h : usN_T ub rows off i mem mem2 th Q) : ∃ e rg' σ', TripN Tryd.prog 0 (loopNo Tryd.f7 0) (rgU ub rows off i) (HU mem th) e rg' σ' ∧ Q e rg' σ' :=
  ⟨_, _, _, usN_1 ub rows off i mem mem2 th (h.2.2.2.2.2.2.2.2.1) (h.2.2.2.2.2.2.1) (h.2.2.2.2.2.2.2.2.2.1) (h.2.2.2.2.2.2.2.1) (h.2.2.2.2.2.1) (h.2.2.2.2.1) (h.2.2.2.1) (h.2.2.1) (h.2.1) (h.1), h.2.2.2.2.2.2.2.2.2.2⟩


theorem usX_1 (ub : Bool) (rows : List (List AVal)) (off : Int) (i : Int) (mem : Ents) (th : List (List AVal))
    (h1 : decide (i < (↑(List.length rows) : Int)) = false) :
    TripN Tryd.prog 0 (loopNo Tryd.f7 0) (rgU ub rows off i) (HU mem th) (AExit.exit 0) (mkR 123 [(0, AVal.fsl ub 1 rows none), (1, AVal.int IntKind.i64 off), (5, AVal.ptr 0 2 0 0), (6, AVal.slc false 1 1 0 16 (some 16)), (7, AVal.int IntKind.i64 i)]) ([AObj.rows false 2 [[AVal.map 2, AVal.map 3]], AObj.rows true 1 th, AObj.mq [] [(AVal.agg [AVal.str vw, AVal.str vc], AVal.ptr 4 2 0 0)] [], AObj.mp true [], AObj.rows false 2 [[AVal.map 5, AVal.slc true 6 2 0 0 none]], AObj.mp true mem, AObj.rows true 2 []]) :=
  evalT (st := St.mk (rgU ub rows off i) (HU mem th) ([Dec.br false]) []) (st' := St.mk (mkR 123 [(0, AVal.fsl ub 1 rows none), (1, AVal.int IntKind.i64 off), (5, AVal.ptr 0 2 0 0), (6, AVal.slc false 1 1 0 16 (some 16)), (7, AVal.int IntKind.i64 i), (21, AVal.int IntKind.i64 i), (22, AVal.fsl ub 1 rows none), (23, AVal.int IntKind.i64 (↑(List.length rows) : Int)), (24, AVal.bool (decide (i < (↑(List.length rows) : Int)))), (25, AVal.tt false), (26, AVal.tuple []), (27, AVal.tuple []), (28, AVal.tt false)]) ([AObj.rows false 2 [[AVal.map 2, AVal.map 3]], AObj.rows true 1 th, AObj.mq [] [(AVal.agg [AVal.str vw, AVal.str vc], AVal.ptr 4 2 0 0)] [], AObj.mp true [], AObj.rows false 2 [[AVal.map 5, AVal.slc true 6 2 0 0 none]], AObj.mp true mem, AObj.rows true 2 []]) ([]) ((decide (i < (↑(List.length rows) : Int)) = false) :: [])) followed (by kernel_rfl) (allP_of ⟨h1, trivial⟩) (keepM 123 [0, 1, 5, 6, 7]) ([0, 1, 2, 3, 4, 5, 6]) (by kernel_rfl) (by kernel_rfl) (by kernel_rfl)

def usX_T (ub : Bool) (rows : List (List AVal)) (off : Int) (i : Int) (mem : Ents) (th : List (List AVal)) (Q : AExit → Regs → AState → Prop) : Prop := (decide (i < (↑(List.length rows) : Int)) = false) ∧ Q (AExit.exit 0) (mkR 123 [(0, AVal.fsl ub 1 rows none), (1, AVal.int IntKind.i64 off), (5, AVal.ptr 0 2 0 0), (6, AVal.slc false 1 1 0 16 (some 16)), (7, AVal.int IntKind.i64 i)]) ([AObj.rows false 2 [[AVal.map 2, AVal.map 3]], AObj.rows true 1 th, AObj.mq [] [(AVal.agg [AVal.str vw, AVal.str vc], AVal.ptr 4 2 0 0)] [], AObj.mp true [], AObj.rows false 2 [[AVal.map 5, AVal.slc true 6 2 0 0 none]], AObj.mp true mem, AObj.rows true 2 []])
theorem usX_wp (ub : Bool) (rows : List (List AVal)) (off : Int) (i : Int) (mem : Ents) (th : List (List AVal)) {Q : AExit → Regs → AState → Prop} (h : usX_T ub rows off i mem th Q) : ∃ e rg' σ', TripN Tryd.prog 0 (loopNo Tryd.f7 0) (rgU ub rows off i) (HU mem th) e rg' σ' ∧ Q e rg' σ' :=
  ⟨_, _, _, usX_1 ub rows off i mem th (h.1), h.2⟩


theorem usY_1 (ub : Bool) (rows : List (List AVal)) (off : Int) (i : Int) (mem : Ents) (th : List (List AVal))
    (h1 : decide (i < 40) = false)
    (h2 : decide (i < (↑(List.length rows) : Int)) = true) :
    TripN Tryd.prog 0 (loopNo Tryd.f7 0) (rgU ub rows off i) (HU mem th) (AExit.exit 0) (mkR 123 [(0, AVal.fsl ub 1 rows none), (1, AVal.int IntKind.i64 off), (5, AVal.ptr 0 2 0 0), (6, AVal.slc false 1 1 0 16 (some 16)), (7, AVal.int IntKind.i64 i)]) ([AObj.rows false 2 [[AVal.map 2, AVal.map 3]], AObj.rows true 1 th, AObj.mq [] [(AVal.agg [AVal.str vw, AVal.str vc], AVal.ptr 4 2 0 0)] [], AObj.mp true [], AObj.rows false 2 [[AVal.map 5, AVal.slc true 6 2 0 0 none]], AObj.mp true mem, AObj.rows true 2 []]) :=
  evalT (st := St.mk (rgU ub rows off i) (HU mem th) ([Dec.br true, Dec.br false]) []) (st' := St.mk (mkR 123 [(0, AVal.fsl ub 1 rows none), (1, AVal.int IntKind.i64 off), (5, AVal.ptr 0 2 0 0), (6, AVal.slc false 1 1 0 16 (some 16)), (7, AVal.int IntKind.i64 i), (21, AVal.int IntKind.i64 i), (22, AVal.fsl ub 1 rows none), (23, AVal.int IntKind.i64 (↑(List.length rows) : Int)), (24, AVal.bool (decide (i < (↑(List.length rows) : Int)))), (25, AVal.tt true), (26, AVal.int IntKind.i64 i), (27, AVal.bool (decide (i < 40))), (28, AVal.tt false)]) ([AObj.rows false 2 [[AVal.map 2, AVal.map 3]], AObj.rows true 1 th, AObj.mq [] [(AVal.agg [AVal.str vw, AVal.str vc], AVal.ptr 4 2 0 0)] [], AObj.mp true [], AObj.rows false 2 [[AVal.map 5, AVal.slc true 6 2 0 0 none]], AObj.mp true mem, AObj.rows true 2 []]) ([]) ((decide (i < 40) = false) :: ((decide (i < (↑(List.length rows) : Int)) = true) :: []))) followed (by kernel_rfl) (allP_of ⟨h1, ⟨h2, trivial⟩⟩) (keepM 123 [0, 1, 5, 6, 7]) ([0, 1, 2, 3, 4, 5, 6]) (by kernel_rfl) (by kernel_rfl) (by kernel_rfl)

def usY_T (ub : Bool) (rows : List (List AVal)) (off : Int) (i : Int) (mem : Ents) (th : List (List AVal)) (Q : AExit → Regs → AState → Prop) : Prop := (decide (i < (↑(List.length rows) : Int)) = true) ∧ (decide (i < 40) = false) ∧ Q (AExit.exit 0) (mkR 123 [(0, AVal.fsl ub 1 rows none), (1, AVal.int IntKind.i64 off), (5, AVal.ptr 0 2 0 0), (6, AVal.slc false 1 1 0 16 (some 16)), (7, AVal.int IntKind.i64 i)]) ([AObj.rows false 2 [[AVal.map 2, AVal.map 3]], AObj.rows true 1 th, AObj.mq [] [(AVal.agg [AVal.str vw, AVal.str vc], AVal.ptr 4 2 0 0)] [], AObj.mp true [], AObj.rows false 2 [[AVal.map 5, AVal.slc true 6 2 0 0 none]], AObj.mp true mem, AObj.rows true 2 []])
theorem usY_wp (ub : Bool) (rows : List (List AVal)) (off : Int) (i : Int) (mem : Ents) (th : List (List AVal)) {Q : AExit → Regs → AState → Prop} (h : usY_T ub rows off i mem th Q) : ∃ e rg' σ', TripN Tryd.prog 0 (loopNo Tryd.f7 0) (rgU ub rows off i) (HU mem th) e rg' σ' ∧ Q e rg' σ' :=
  ⟨_, _, _, usY_1 ub rows off i mem th (h.2.1) (h.1), h.2.2⟩


abbrev rgL (nb : Bool) (m n k : Int) (ln : Nat) : Regs := mkR 123 [(6, .slc false 0 1 0 16 (some 16)), (10, .slc nb 1 1 0 ln none), (11, .int .i64 0), (12, .int .i64 n), (13, .int .i64 k)]
theorem ukB_1 (nb : Bool) (n : Int) (k : Int) (th : List (List AVal)) (vs : List (List AVal)) (ln : Nat)
    (h1 : (!AVal.toBool (List.getD (List.getD th (Int.toNat k) []) 0 AVal.any)) = true)
    (h2 : decide (Int.toNat k < List.length th) = true)
    (h3 : areKinds [Kind.bool] [List.getD (List.getD th (Int.toNat k) []) 0 AVal.any] = true)
    (h4 : decide (0 ≤ k ∧ k < (↑16 : Int)) = true)
    (h5 : decide (k < 16) = true) :
    TripN Tryd.prog 0 (loopNo Tryd.f7 1) (rgL nb 0 n k ln) ([AObj.rows true 1 th, AObj.rows true 1 vs]) (AExit.normal) (mkR 123 [(6, AVal.slc false 0 1 0 16 (some 16)), (10, AVal.slc nb 1 1 0 ln none), (11, AVal.int IntKind.i64 0), (12, AVal.int IntKind.i64 n), (13, AVal.int IntKind.i64 (IntKind.wrap IntKind.i64 (k + 1)))]) ([AObj.rows true 1 th, AObj.rows true 1 vs]) :=
  evalT (st := St.mk (rgL nb 0 n k ln) ([AObj.rows true 1 th, AObj.rows true 1 vs]) ([Dec.br true, Dec.br true]) []) (st' := St.mk (mkR 123 [(6, AVal.slc false 0 1 0 16 (some 16)), (10, AVal.slc nb 1 1 0 ln none), (11, AVal.int IntKind.i64 0), (12, AVal.int IntKind.i64 n), (13, AVal.int IntKind.i64 (IntKind.wrap IntKind.i64 (k + 1))), (85, AVal.int IntKind.i64 k), (86, AVal.tt true), (87, AVal.int IntKind.i64 k), (88, AVal.int IntKind.i64 (IntKind.wrap IntKind.i64 (k + 1))), (89, AVal.slc false 0 1 0 16 (some 16)), (90, AVal.int IntKind.i64 k), (91, AVal.ptr 0 1 (Int.toNat k) 0), (92, AVal.bool (AVal.toBool (List.getD (List.getD th (Int.toNat k) []) 0 AVal.any))), (93, AVal.tt true)]) ([AObj.rows true 1 th, AObj.rows true 1 vs]) ([]) (((!AVal.toBool (List.getD (List.getD th (Int.toNat k) []) 0 AVal.any)) = true) :: ((decide (Int.toNat k < List.length th) = true) :: (tr 1 ++ ((areKinds [Kind.bool] [List.getD (List.getD th (Int.toNat k) []) 0 AVal.any] = true) :: ((decide (0 ≤ k ∧ k < (↑16 : Int)) = true) :: ((decide (k < 16) = true) :: []))))))) followed (by kernel_rfl) (allP_of ⟨h1, ⟨h2, (trC 1 ⟨h3, ⟨h4, ⟨h5, trivial⟩⟩⟩)⟩⟩) (keepM 123 [6, 10, 11, 12, 13]) ([0, 1]) (by kernel_rfl) (by kernel_rfl) (by kernel_rfl)

theorem ukB_2 (nb : Bool) (n : Int) (k : Int) (th : List (List AVal)) (vs : List (List AVal)) (ln : Nat)
    (h1 : decide (n ≥ (↑ln : Int)) = true)
    (h2 : (!AVal.toBool (List.getD (List.getD th (Int.toNat k) []) 0 AVal.any)) = false)
    (h3 : decide (Int.toNat k < List.length th) = true)
    (h4 : areKinds [Kind.bool] [List.getD (List.getD th (Int.toNat k) []) 0 AVal.any] = true)
    (h5 : decide (0 ≤ k ∧ k < (↑16 : Int)) = true)
    (h6 : decide (k < 16) = true) :
    TripN Tryd.prog 0 (loopNo Tryd.f7 1) (rgL nb 0 n k ln) ([AObj.rows true 1 th, AObj.rows true 1 vs]) (AExit.ret) (mkR 123 [(4, AVal.tt false)]) ([]) :=
  evalT (st := St.mk (rgL nb 0 n k ln) ([AObj.rows true 1 th, AObj.rows true 1 vs]) ([Dec.br true, Dec.br false, Dec.br true]) []) (st' := St.mk (mkR 123 [(4, AVal.tt false), (6, AVal.slc false 0 1 0 16 (some 16)), (10, AVal.slc nb 1 1 0 ln none), (11, AVal.int IntKind.i64 0), (12, AVal.int IntKind.i64 n), (13, AVal.int IntKind.i64 k), (85, AVal.int IntKind.i64 k), (86, AVal.tt true), (89, AVal.slc false 0 1 0 16 (some 16)), (90, AVal.int IntKind.i64 k), (91, AVal.ptr 0 1 (Int.toNat k) 0), (92, AVal.bool (AVal.toBool (List.getD (List.getD th (Int.toNat k) []) 0 AVal.any))), (93, AVal.tt false), (94, AVal.int IntKind.i64 n), (95, AVal.slc nb 1 1 0 ln none), (96, AVal.int IntKind.i64 (↑ln : Int)), (97, AVal.bool (decide (n ≥ (↑ln : Int)))), (98, AVal.tt true), (99, AVal.tuple []), (100, AVal.tuple []), (101, AVal.tuple []), (102, AVal.tuple []), (103, AVal.tuple []), (104, AVal.tuple []), (105, AVal.tuple []), (106, AVal.tuple []), (107, AVal.tuple []), (108, AVal.tuple []), (109, AVal.tt true)]) ([AObj.rows true 1 th, AObj.rows true 1 vs]) ([]) (tr 22 ++ ((decide (n ≥ (↑ln : Int)) = true) :: (tr 12 ++ (((!AVal.toBool (List.getD (List.getD th (Int.toNat k) []) 0 AVal.any)) = false) :: ((decide (Int.toNat k < List.length th) = true) :: (tr 1 ++ ((areKinds [Kind.bool] [List.getD (List.getD th (Int.toNat k) []) 0 AVal.any] = true) :: ((decide (0 ≤ k ∧ k < (↑16 : Int)) = true) :: ((decide (k < 16) = true) :: [])))))))))) followed (by kernel_rfl) (allP_of (trC 22 ⟨h1, (trC 12 ⟨h2, ⟨h3, (trC 1 ⟨h4, ⟨h5, ⟨h6, trivial⟩⟩⟩)⟩⟩)⟩)) (keepM 123 [4]) ([]) (by kernel_rfl) (by kernel_rfl) (by kernel_rfl)

theorem ukB_3 (nb : Bool) (n : Int) (k : Int) (th : List (List AVal)) (vs : List (List AVal)) (ln : Nat)
    (h1 : (!ByteArray.toList (AVal.toStr (List.getD (List.getD vs (Int.toNat n) []) 0 AVal.any)) == [Subtype.val (Subtype.mk (ByteArray.get! (rowBytes [[AVal.int IntKind.u8 117], [AVal.int IntKind.u8 (IntKind.wrap IntKind.u8 (IntKind.wrap IntKind.i64 (97 + k)))]]) 0) (And.left (Iff.mp List.forall_mem_cons (And.right (Iff.mp List.forall_mem_cons (List.attach._proof_1 [ByteArray.get! (rowBytes [[AVal.int IntKind.u8 117], [AVal.int IntKind.u8 (IntKind.wrap IntKind.u8 (IntKind.wrap IntKind.i64 (97 + k)))]]) 1, ByteArray.get! (rowBytes [[AVal.int IntKind.u8 117], [AVal.int IntKind.u8 (IntKind.wrap IntKind.u8 (IntKind.wrap IntKind.i64 (97 + k)))]]) 0])))))), Subtype.val (Subtype.mk (ByteArray.get! (rowBytes [[AVal.int IntKind.u8 117], [AVal.int IntKind.u8 (IntKind.wrap IntKind.u8 (IntKind.wrap IntKind.i64 (97 + k)))]]) 1) (And.left (Iff.mp List.forall_mem_cons (List.attach._proof_1 [ByteArray.get! (rowBytes [[AVal.int IntKind.u8 117], [AVal.int IntKind.u8 (IntKind.wrap IntKind.u8 (IntKind.wrap IntKind.i64 (97 + k)))]]) 1, ByteArray.get! (rowBytes [[AVal.int IntKind.u8 117], [AVal.int IntKind.u8 (IntKind.wrap IntKind.u8 (IntKind.wrap IntKind.i64 (97 + k)))]]) 0]))))]) = true)
    (h2 : decide (Int.toNat n < List.length vs) = true)
    (h3 : areKinds [Kind.str] [List.getD (List.getD vs (Int.toNat n) []) 0 AVal.any] = true)
    (h4 : decide (0 ≤ n ∧ n < (↑ln : Int)) = true)
    (h5 : decide (n ≥ (↑ln : Int)) = false)
    (h6 : (!AVal.toBool (List.getD (List.getD th (Int.toNat k) []) 0 AVal.any)) = false)
    (h7 : decide (Int.toNat k < List.length th) = true)
    (h8 : areKinds [Kind.bool] [List.getD (List.getD th (Int.toNat k) []) 0 AVal.any] = true)
    (h9 : decide (0 ≤ k ∧ k < (↑16 : Int)) = true)
    (h10 : decide (k < 16) = true) :
    TripN Tryd.prog 0 (loopNo Tryd.f7 1) (rgL nb 0 n k ln) ([AObj.rows true 1 th, AObj.rows true 1 vs]) (AExit.ret) (mkR 123 [(4, AVal.tt false)]) ([]) :=
  evalT (st := St.mk (rgL nb 0 n k ln) ([AObj.rows true 1 th, AObj.rows true 1 vs]) ([Dec.br true, Dec.br false, Dec.br false, Dec.br true]) []) (st' := St.mk (mkR 123 [(4, AVal.tt false), (6, AVal.slc false 0 1 0 16 (some 16)), (10, AVal.slc nb 1 1 0 ln none), (11, AVal.int IntKind.i64 0), (12, AVal.int IntKind.i64 n), (13, AVal.int IntKind.i64 k), (85, AVal.int IntKind.i64 k), (86, AVal.tt true), (89, AVal.slc false 0 1 0 16 (some 16)), (90, AVal.int IntKind.i64 k), (91, AVal.ptr 0 1 (Int.toNat k) 0), (92, AVal.bool (AVal.toBool (List.getD (List.getD th (Int.toNat k) []) 0 AVal.any))), (93, AVal.tt false), (94, AVal.int IntKind.i64 n), (95, AVal.slc nb 1 1 0 ln none), (96, AVal.int IntKind.i64 (↑ln : Int)), (97, AVal.bool (decide (n ≥ (↑ln : Int)))), (98, AVal.tt false), (99, AVal.slc nb 1 1 0 ln none), (100, AVal.int IntKind.i64 n), (101, AVal.ptr 1 1 (Int.toNat n) 0), (102, AVal.str (AVal.toStr (List.getD (List.getD vs (Int.toNat n) []) 0 AVal.any))), (103, AVal.int IntKind.i64 k), (104, AVal.int IntKind.i64 (IntKind.wrap IntKind.i64 (97 + k))), (105, AVal.int IntKind.u8 (IntKind.wrap IntKind.u8 (IntKind.wrap IntKind.i64 (97 + k)))), (106, AVal.slc false 2 1 0 2 (some 2)), (107, AVal.str (rowBytes [[AVal.int IntKind.u8 117], [AVal.int IntKind.u8 (IntKind.wrap IntKind.u8 (IntKind.wrap IntKind.i64 (97 + k)))]])), (108, AVal.bool !ByteArray.toList (AVal.toStr (List.getD (List.getD vs (Int.toNat n) []) 0 AVal.any)) == [Subtype.val (Subtype.mk (ByteArray.get! (rowBytes [[AVal.int IntKind.u8 117], [AVal.int IntKind.u8 (IntKind.wrap IntKind.u8 (IntKind.wrap IntKind.i64 (97 + k)))]]) 0) (And.left (Iff.mp List.forall_mem_cons (And.right (Iff.mp List.forall_mem_cons (List.attach._proof_1 [ByteArray.get! (rowBytes [[AVal.int IntKind.u8 117], [AVal.int IntKind.u8 (IntKind.wrap IntKind.u8 (IntKind.wrap IntKind.i64 (97 + k)))]]) 1, ByteArray.get! (rowBytes [[AVal.int IntKind.u8 117], [AVal.int IntKind.u8 (IntKind.wrap IntKind.u8 (IntKind.wrap IntKind.i64 (97 + k)))]]) 0])))))), Subtype.val (Subtype.mk (ByteArray.get! (rowBytes [[AVal.int IntKind.u8 117], [AVal.int IntKind.u8 (IntKind.wrap IntKind.u8 (IntKind.wrap IntKind.i64 (97 + k)))]]) 1) (And.left (Iff.mp List.forall_mem_cons (List.attach._proof_1 [ByteArray.get! (rowBytes [[AVal.int IntKind.u8 117], [AVal.int IntKind.u8 (IntKind.wrap IntKind.u8 (IntKind.wrap IntKind.i64 (97 + k)))]]) 1, ByteArray.get! (rowBytes [[AVal.int IntKind.u8 117], [AVal.int IntKind.u8 (IntKind.wrap IntKind.u8 (IntKind.wrap IntKind.i64 (97 + k)))]]) 0]))))]), (109, AVal.tt true)]) ([AObj.rows true 1 th, AObj.rows true 1 vs, AObj.rows true 1 [[AVal.int IntKind.u8 117], [AVal.int IntKind.u8 (IntKind.wrap IntKind.u8 (IntKind.wrap IntKind.i64 (97 + k)))]]]) ([]) (((!ByteArray.toList (AVal.toStr (List.getD (List.getD vs (Int.toNat n) []) 0 AVal.any)) == [Subtype.val (Subtype.mk (ByteArray.get! (rowBytes [[AVal.int IntKind.u8 117], [AVal.int IntKind.u8 (IntKind.wrap IntKind.u8 (IntKind.wrap IntKind.i64 (97 + k)))]]) 0) (And.left (Iff.mp List.forall_mem_cons (And.right (Iff.mp List.forall_mem_cons (List.attach._proof_1 [ByteArray.get! (rowBytes [[AVal.int IntKind.u8 117], [AVal.int IntKind.u8 (IntKind.wrap IntKind.u8 (IntKind.wrap IntKind.i64 (97 + k)))]]) 1, ByteArray.get! (rowBytes [[AVal.int IntKind.u8 117], [AVal.int IntKind.u8 (IntKind.wrap IntKind.u8 (IntKind.wrap IntKind.i64 (97 + k)))]]) 0])))))), Subtype.val (Subtype.mk (ByteArray.get! (rowBytes [[AVal.int IntKind.u8 117], [AVal.int IntKind.u8 (IntKind.wrap IntKind.u8 (IntKind.wrap IntKind.i64 (97 + k)))]]) 1) (And.left (Iff.mp List.forall_mem_cons (List.attach._proof_1 [ByteArray.get! (rowBytes [[AVal.int IntKind.u8 117], [AVal.int IntKind.u8 (IntKind.wrap IntKind.u8 (IntKind.wrap IntKind.i64 (97 + k)))]]) 1, ByteArray.get! (rowBytes [[AVal.int IntKind.u8 117], [AVal.int IntKind.u8 (IntKind.wrap IntKind.u8 (IntKind.wrap IntKind.i64 (97 + k)))]]) 0]))))]) = true) :: (tr 23 ++ ((decide (Int.toNat n < List.length vs) = true) :: (tr 1 ++ ((areKinds [Kind.str] [List.getD (List.getD vs (Int.toNat n) []) 0 AVal.any] = true) :: (tr 2 ++ ((decide (0 ≤ n ∧ n < (↑ln : Int)) = true) :: (tr 4 ++ ((decide (n ≥ (↑ln : Int)) = false) :: (tr 12 ++ (((!AVal.toBool (List.getD (List.getD th (Int.toNat k) []) 0 AVal.any)) = false) :: ((decide (Int.toNat k < List.length th) = true) :: (tr 1 ++ ((areKinds [Kind.bool] [List.getD (List.getD th (Int.toNat k) []) 0 AVal.any] = true) :: ((decide (0 ≤ k ∧ k < (↑16 : Int)) = true) :: ((decide (k < 16) = true) :: []))))))))))))))))) followed (by kernel_rfl) (allP_of ⟨h1, (trC 23 ⟨h2, (trC 1 ⟨h3, (trC 2 ⟨h4, (trC 4 ⟨h5, (trC 12 ⟨h6, ⟨h7, (trC 1 ⟨h8, ⟨h9, ⟨h10, trivial⟩⟩⟩)⟩⟩)⟩)⟩)⟩)⟩)⟩) (keepM 123 [4]) ([]) (by kernel_rfl) (by kernel_rfl) (by kernel_rfl)

theorem ukB_4 (nb : Bool) (n : Int) (k : Int) (th : List (List AVal)) (vs : List (List AVal)) (ln : Nat)
    (h1 : (!ByteArray.toList (AVal.toStr (List.getD (List.getD vs (Int.toNat n) []) 0 AVal.any)) == [Subtype.val (Subtype.mk (ByteArray.get! (rowBytes [[AVal.int IntKind.u8 117], [AVal.int IntKind.u8 (IntKind.wrap IntKind.u8 (IntKind.wrap IntKind.i64 (97 + k)))]]) 0) (And.left (Iff.mp List.forall_mem_cons (And.right (Iff.mp List.forall_mem_cons (List.attach._proof_1 [ByteArray.get! (rowBytes [[AVal.int IntKind.u8 117], [AVal.int IntKind.u8 (IntKind.wrap IntKind.u8 (IntKind.wrap IntKind.i64 (97 + k)))]]) 1, ByteArray.get! (rowBytes [[AVal.int IntKind.u8 117], [AVal.int IntKind.u8 (IntKind.wrap IntKind.u8 (IntKind.wrap IntKind.i64 (97 + k)))]]) 0])))))), Subtype.val (Subtype.mk (ByteArray.get! (rowBytes [[AVal.int IntKind.u8 117], [AVal.int IntKind.u8 (IntKind.wrap IntKind.u8 (IntKind.wrap IntKind.i64 (97 + k)))]]) 1) (And.left (Iff.mp List.forall_mem_cons (List.attach._proof_1 [ByteArray.get! (rowBytes [[AVal.int IntKind.u8 117], [AVal.int IntKind.u8 (IntKind.wrap IntKind.u8 (IntKind.wrap IntKind.i64 (97 + k)))]]) 1, ByteArray.get! (rowBytes [[AVal.int IntKind.u8 117], [AVal.int IntKind.u8 (IntKind.wrap IntKind.u8 (IntKind.wrap IntKind.i64 (97 + k)))]]) 0]))))]) = false)
    (h2 : decide (Int.toNat n < List.length vs) = true)
    (h3 : areKinds [Kind.str] [List.getD (List.getD vs (Int.toNat n) []) 0 AVal.any] = true)
    (h4 : decide (0 ≤ n ∧ n < (↑ln : Int)) = true)
    (h5 : decide (n ≥ (↑ln : Int)) = false)
    (h6 : (!AVal.toBool (List.getD (List.getD th (Int.toNat k) []) 0 AVal.any)) = false)
    (h7 : decide (Int.toNat k < List.length th) = true)
    (h8 : areKinds [Kind.bool] [List.getD (List.getD th (Int.toNat k) []) 0 AVal.any] = true)
    (h9 : decide (0 ≤ k ∧ k < (↑16 : Int)) = true)
    (h10 : decide (k < 16) = true) :
    TripN Tryd.prog 0 (loopNo Tryd.f7 1) (rgL nb 0 n k ln) ([AObj.rows true 1 th, AObj.rows true 1 vs]) (AExit.normal) (mkR 123 [(6, AVal.slc false 0 1 0 16 (some 16)), (10, AVal.slc nb 1 1 0 ln none), (11, AVal.int IntKind.i64 0), (12, AVal.int IntKind.i64 (IntKind.wrap IntKind.i64 (n + 1))), (13, AVal.int IntKind.i64 (IntKind.wrap IntKind.i64 (k + 1)))]) ([AObj.rows true 1 th, AObj.rows true 1 vs]) :=
  evalT (st := St.mk (rgL nb 0 n k ln) ([AObj.rows true 1 th, AObj.rows true 1 vs]) ([Dec.br true, Dec.br false, Dec.br false, Dec.br false]) []) (st' := St.mk (mkR 123 [(6, AVal.slc false 0 1 0 16 (some 16)), (10, AVal.slc nb 1 1 0 ln none), (11, AVal.int IntKind.i64 0), (12, AVal.int IntKind.i64 (IntKind.wrap IntKind.i64 (n + 1))), (13, AVal.int IntKind.i64 (IntKind.wrap IntKind.i64 (k + 1))), (85, AVal.int IntKind.i64 k), (86, AVal.tt true), (87, AVal.int IntKind.i64 k), (88, AVal.int IntKind.i64 (IntKind.wrap IntKind.i64 (k + 1))), (89, AVal.slc false 0 1 0 16 (some 16)), (90, AVal.int IntKind.i64 k), (91, AVal.ptr 0 1 (Int.toNat k) 0), (92, AVal.bool (AVal.toBool (List.getD (List.getD th (Int.toNat k) []) 0 AVal.any))), (93, AVal.tt false), (94, AVal.int IntKind.i64 n), (95, AVal.slc nb 1 1 0 ln none), (96, AVal.int IntKind.i64 (↑ln : Int)), (97, AVal.bool (decide (n ≥ (↑ln : Int)))), (98, AVal.tt false), (99, AVal.slc nb 1 1 0 ln none), (100, AVal.int IntKind.i64 n), (101, AVal.ptr 1 1 (Int.toNat n) 0), (102, AVal.str (AVal.toStr (List.getD (List.getD vs (Int.toNat n) []) 0 AVal.any))), (103, AVal.int IntKind.i64 k), (104, AVal.int IntKind.i64 (IntKind.wrap IntKind.i64 (97 + k))), (105, AVal.int IntKind.u8 (IntKind.wrap IntKind.u8 (IntKind.wrap IntKind.i64 (97 + k)))), (106, AVal.slc false 2 1 0 2 (some 2)), (107, AVal.str (rowBytes [[AVal.int IntKind.u8 117], [AVal.int IntKind.u8 (IntKind.wrap IntKind.u8 (IntKind.wrap IntKind.i64 (97 + k)))]])), (108, AVal.bool !ByteArray.toList (AVal.toStr (List.getD (List.getD vs (Int.toNat n) []) 0 AVal.any)) == [Subtype.val (Subtype.mk (ByteArray.get! (rowBytes [[AVal.int IntKind.u8 117], [AVal.int IntKind.u8 (IntKind.wrap IntKind.u8 (IntKind.wrap IntKind.i64 (97 + k)))]]) 0) (And.left (Iff.mp List.forall_mem_cons (And.right (Iff.mp List.forall_mem_cons (List.attach._proof_1 [ByteArray.get! (rowBytes [[AVal.int IntKind.u8 117], [AVal.int IntKind.u8 (IntKind.wrap IntKind.u8 (IntKind.wrap IntKind.i64 (97 + k)))]]) 1, ByteArray.get! (rowBytes [[AVal.int IntKind.u8 117], [AVal.int IntKind.u8 (IntKind.wrap IntKind.u8 (IntKind.wrap IntKind.i64 (97 + k)))]]) 0])))))), Subtype.val (Subtype.mk (ByteArray.get! (rowBytes [[AVal.int IntKind.u8 117], [AVal.int IntKind.u8 (IntKind.wrap IntKind.u8 (IntKind.wrap IntKind.i64 (97 + k)))]]) 1) (And.left (Iff.mp List.forall_mem_cons (List.attach._proof_1 [ByteArray.get! (rowBytes [[AVal.int IntKind.u8 117], [AVal.int IntKind.u8 (IntKind.wrap IntKind.u8 (IntKind.wrap IntKind.i64 (97 + k)))]]) 1, ByteArray.get! (rowBytes [[AVal.int IntKind.u8 117], [AVal.int IntKind.u8 (IntKind.wrap IntKind.u8 (IntKind.wrap IntKind.i64 (97 + k)))]]) 0]))))]), (109, AVal.tt false), (110, AVal.int IntKind.i64 n), (111, AVal.int IntKind.i64 (IntKind.wrap IntKind.i64 (n + 1)))]) ([AObj.rows true 1 th, AObj.rows true 1 vs, AObj.rows true 1 [[AVal.int IntKind.u8 117], [AVal.int IntKind.u8 (IntKind.wrap IntKind.u8 (IntKind.wrap IntKind.i64 (97 + k)))]]]) ([]) (((!ByteArray.toList (AVal.toStr (List.getD (List.getD vs (Int.toNat n) []) 0 AVal.any)) == [Subtype.val (Subtype.mk (ByteArray.get! (rowBytes [[AVal.int IntKind.u8 117], [AVal.int IntKind.u8 (IntKind.wrap IntKind.u8 (IntKind.wrap IntKind.i64 (97 + k)))]]) 0) (And.left (Iff.mp List.forall_mem_cons (And.right (Iff.mp List.forall_mem_cons (List.attach._proof_1 [ByteArray.get! (rowBytes [[AVal.int IntKind.u8 117], [AVal.int IntKind.u8 (IntKind.wrap IntKind.u8 (IntKind.wrap IntKind.i64 (97 + k)))]]) 1, ByteArray.get! (rowBytes [[AVal.int IntKind.u8 117], [AVal.int IntKind.u8 (IntKind.wrap IntKind.u8 (IntKind.wrap IntKind.i64 (97 + k)))]]) 0])))))), Subtype.val (Subtype.mk (ByteArray.get! (rowBytes [[AVal.int IntKind.u8 117], [AVal.int IntKind.u8 (IntKind.wrap IntKind.u8 (IntKind.wrap IntKind.i64 (97 + k)))]]) 1) (And.left (Iff.mp List.forall_mem_cons (List.attach._proof_1 [ByteArray.get! (rowBytes [[AVal.int IntKind.u8 117], [AVal.int IntKind.u8 (IntKind.wrap IntKind.u8 (IntKind.wrap IntKind.i64 (97 + k)))]]) 1, ByteArray.get! (rowBytes [[AVal.int IntKind.u8 117], [AVal.int IntKind.u8 (IntKind.wrap IntKind.u8 (IntKind.wrap IntKind.i64 (97 + k)))]]) 0]))))]) = false) :: (tr 23 ++ ((decide (Int.toNat n < List.length vs) = true) :: (tr 1 ++ ((areKinds [Kind.str] [List.getD (List.getD vs (Int.toNat n) []) 0 AVal.any] = true) :: (tr 2 ++ ((decide (0 ≤ n ∧ n < (↑ln : Int)) = true) :: (tr 4 ++ ((decide (n ≥ (↑ln : Int)) = false) :: (tr 12 ++ (((!AVal.toBool (List.getD (List.getD th (Int.toNat k) []) 0 AVal.any)) = false) :: ((decide (Int.toNat k < List.length th) = true) :: (tr 1 ++ ((areKinds [Kind.bool] [List.getD (List.getD th (Int.toNat k) []) 0 AVal.any] = true) :: ((decide (0 ≤ k ∧ k < (↑16 : Int)) = true) :: ((decide (k < 16) = true) :: []))))))))))))))))) followed (by kernel_rfl) (allP_of ⟨h1, (trC 23 ⟨h2, (trC 1 ⟨h3, (trC 2 ⟨h4, (trC 4 ⟨h5, (trC 12 ⟨h6, ⟨h7, (trC 1 ⟨h8, ⟨h9, ⟨h10, trivial⟩⟩⟩)⟩⟩)⟩)⟩)⟩)⟩)⟩) (keepM 123 [6, 10, 11, 12, 13]) ([0, 1]) (by kernel_rfl) (by kernel_rfl) (by kernel_rfl)

theorem ukB_5 (nb : Bool) (n : Int) (k : Int) (th : List (List AVal)) (vs : List (List AVal)) (ln : Nat)
    (h1 : decide (k < 16) = false) :
    TripN Tryd.prog 0 (loopNo Tryd.f7 1) (rgL nb 0 n k ln) ([AObj.rows true 1 th, AObj.rows true 1 vs]) (AExit.exit 2) (mkR 123 [(6, AVal.slc false 0 1 0 16 (some 16)), (10, AVal.slc nb 1 1 0 ln none), (11, AVal.int IntKind.i64 0), (12, AVal.int IntKind.i64 n), (13, AVal.int IntKind.i64 k)]) ([AObj.rows true 1 th, AObj.rows true 1 vs]) :=
  evalT (st := St.mk (rgL nb 0 n k ln) ([AObj.rows true 1 th, AObj.rows true 1 vs]) ([Dec.br false]) []) (st' := St.mk (mkR 123 [(6, AVal.slc false 0 1 0 16 (some 16)), (10, AVal.slc nb 1 1 0 ln none), (11, AVal.int IntKind.i64 0), (12, AVal.int IntKind.i64 n), (13, AVal.int IntKind.i64 k), (85, AVal.int IntKind.i64 k), (86, AVal.tt false)]) ([AObj.rows true 1 th, AObj.rows true 1 vs]) ([]) ((decide (k < 16) = false) :: [])) followed (by kernel_rfl) (allP_of ⟨h1, trivial⟩) (keepM 123 [6, 10, 11, 12, 13]) ([0, 1]) (by kernel_rfl) (by kernel_rfl) (by kernel_rfl)

def ukB_T (nb : Bool) (n : Int) (k : Int) (th : List (List AVal)) (vs : List (List AVal)) (ln : Nat) (Q : AExit → Regs → AState → Prop) : Prop := ((decide (k < 16) = true) → (decide (0 ≤ k ∧ k < (↑16 : Int)) = true) ∧ (areKinds [Kind.bool] [List.getD (List.getD th (Int.toNat k) []) 0 AVal.any] = true) ∧ (decide (Int.toNat k < List.length th) = true) ∧ (((!AVal.toBool (List.getD (List.getD th (Int.toNat k) []) 0 AVal.any)) = true) → Q (AExit.normal) (mkR 123 [(6, AVal.slc false 0 1 0 16 (some 16)), (10, AVal.slc nb 1 1 0 ln none), (11, AVal.int IntKind.i64 0), (12, AVal.int IntKind.i64 n), (13, AVal.int IntKind.i64 (IntKind.wrap IntKind.i64 (k + 1)))]) ([AObj.rows true 1 th, AObj.rows true 1 vs])) ∧ (((!AVal.toBool (List.getD (List.getD th (Int.toNat k) []) 0 AVal.any)) = false) → ((decide (n ≥ (↑ln : Int)) = true) → Q (AExit.ret) (mkR 123 [(4, AVal.tt false)]) ([])) ∧ ((decide (n ≥ (↑ln : Int)) = false) → (decide (0 ≤ n ∧ n < (↑ln : Int)) = true) ∧ (areKinds [Kind.str] [List.getD (List.getD vs (Int.toNat n) []) 0 AVal.any] = true) ∧ (decide (Int.toNat n < List.length vs) = true) ∧ (((!ByteArray.toList (AVal.toStr (List.getD (List.getD vs (Int.toNat n) []) 0 AVal.any)) == [Subtype.val (Subtype.mk (ByteArray.get! (rowBytes [[AVal.int IntKind.u8 117], [AVal.int IntKind.u8 (IntKind.wrap IntKind.u8 (IntKind.wrap IntKind.i64 (97 + k)))]]) 0) (And.left (Iff.mp List.forall_mem_cons (And.right (Iff.mp List.forall_mem_cons (List.attach._proof_1 [ByteArray.get! (rowBytes [[AVal.int IntKind.u8 117], [AVal.int IntKind.u8 (IntKind.wrap IntKind.u8 (IntKind.wrap IntKind.i64 (97 + k)))]]) 1, ByteArray.get! (rowBytes [[AVal.int IntKind.u8 117], [AVal.int IntKind.u8 (IntKind.wrap IntKind.u8 (IntKind.wrap IntKind.i64 (97 + k)))]]) 0])))))), Subtype.val (Subtype.mk (ByteArray.get! (rowBytes [[AVal.int IntKind.u8 117], [AVal.int IntKind.u8 (IntKind.wrap IntKind.u8 (IntKind.wrap IntKind.i64 (97 + k)))]]) 1) (And.left (Iff.mp List.forall_mem_cons (List.attach._proof_1 [ByteArray.get! (rowBytes [[AVal.int IntKind.u8 117], [AVal.int IntKind.u8 (IntKind.wrap IntKind.u8 (IntKind.wrap IntKind.i64 (97 + k)))]]) 1, ByteArray.get! (rowBytes [[AVal.int IntKind.u8 117], [AVal.int IntKind.u8 (IntKind.wrap IntKind.u8 (IntKind.wrap IntKind.i64 (97 + k)))]]) 0]))))]) = true) → Q (AExit.ret) (mkR 123 [(4, AVal.tt false)]) ([])) ∧ (((!ByteArray.toList (AVal.toStr (List.getD (List.getD vs (Int.toNat n) []) 0 AVal.any)) == [Subtype.val (Subtype.mk (ByteArray.get! (rowBytes [[AVal.int IntKind.u8 117], [AVal.int IntKind.u8 (IntKind.wrap IntKind.u8 (IntKind.wrap IntKind.i64 (97 + k)))]]) 0) (And.left (Iff.mp List.forall_mem_cons (And.right (Iff.mp List.forall_mem_cons (List.attach._proof_1 [ByteArray.get! (rowBytes [[AVal.int IntKind.u8 117], [AVal.int IntKind.u8 (IntKind.wrap IntKind.u8 (IntKind.wrap IntKind.i64 (97 + k)))]]) 1, ByteArray.get! (rowBytes [[AVal.int IntKind.u8 117], [AVal.int IntKind.u8 (IntKind.wrap IntKind.u8 (IntKind.wrap IntKind.i64 (97 + k)))]]) 0])))))), Subtype.val (Subtype.mk (ByteArray.get! (rowBytes [[AVal.int IntKind.u8 117], [AVal.int IntKind.u8 (IntKind.wrap IntKind.u8 (IntKind.wrap IntKind.i64 (97 + k)))]]) 1) (And.left (Iff.mp List.forall_mem_cons (List.attach._proof_1 [ByteArray.get! (rowBytes [[AVal.int IntKind.u8 117], [AVal.int IntKind.u8 (IntKind.wrap IntKind.u8 (IntKind.wrap IntKind.i64 (97 + k)))]]) 1, ByteArray.get! (rowBytes [[AVal.int IntKind.u8 117], [AVal.int IntKind.u8 (IntKind.wrap IntKind.u8 (IntKind.wrap IntKind.i64 (97 + k)))]]) 0]))))]) = false) → Q (AExit.normal) (mkR 123 [(6, AVal.slc false 0 1 0 16 (some 16)), (10, AVal.slc nb 1 1 0 ln none), (11, AVal.int IntKind.i64 0), (12, AVal.int IntKind.i64 (IntKind.wrap IntKind.i64 (n + 1))), (13, AVal.int IntKind.i64 (IntKind.wrap IntKind.i64 (k + 1)))]) ([AObj.rows true 1 th, AObj.rows true 1 vs]))))) ∧ ((decide (k < 16) = false) → Q (AExit.exit 2) (mkR 123 [(6, AVal.slc false 0 1 0 16 (some 16)), (10, AVal.slc nb 1 1 0 ln none), (11, AVal.int IntKind.i64 0), (12, AVal.int IntKind.i64 n), (13, AVal.int IntKind.i64 k)]) ([AObj.rows true 1 th, AObj.rows true 1 vs]))
theorem ukB_wp (nb : Bool) (n : Int) (k : Int) (th : List (List AVal)) (vs : List (List AVal)) (ln : Nat) {Q : AExit → Regs → AState → Prop} (h : ukB_T nb n k th vs ln Q) : ∃ e rg' σ', TripN Tryd.prog 0 (loopNo Tryd.f7 1) (rgL nb 0 n k ln) ([AObj.rows true 1 th, AObj.rows true 1 vs]) e rg' σ' ∧ Q e rg' σ' :=
  brE (fun (c0 : decide (k < 16) = true) => brE (fun (c1 : (!AVal.toBool (List.getD (List.getD th (Int.toNat k) []) 0 AVal.any)) = true) => ⟨_, _, _, ukB_1 nb n k th vs ln (c1) ((h.1 c0).2.2.1) ((h.1 c0).2.1) ((h.1 c0).1) (c0), ((h.1 c0).2.2.2.1 c1)⟩) (fun (c1 : (!AVal.toBool (List.getD (List.getD th (Int.toNat k) []) 0 AVal.any)) = false) => brE (fun (c2 : decide (n ≥ (↑ln : Int)) = true) => ⟨_, _, _, ukB_2 nb n k th vs ln (c2) (c1) ((h.1 c0).2.2.1) ((h.1 c0).2.1) ((h.1 c0).1) (c0), (((h.1 c0).2.2.2.2 c1).1 c2)⟩) (fun (c2 : decide (n ≥ (↑ln : Int)) = false) => brE (fun (c3 : (!ByteArray.toList (AVal.toStr (List.getD (List.getD vs (Int.toNat n) []) 0 AVal.any)) == [Subtype.val (Subtype.mk (ByteArray.get! (rowBytes [[AVal.int IntKind.u8 117], [AVal.int IntKind.u8 (IntKind.wrap IntKind.u8 (IntKind.wrap IntKind.i64 (97 + k)))]]) 0) (And.left (Iff.mp List.forall_mem_cons (And.right (Iff.mp List.forall_mem_cons (List.attach._proof_1 [ByteArray.get! (rowBytes [[AVal.int IntKind.u8 117], [AVal.int IntKind.u8 (IntKind.wrap IntKind.u8 (IntKind.wrap IntKind.i64 (97 + k)))]]) 1, ByteArray.get! (rowBytes [[AVal.int IntKind.u8 117], [AVal.int IntKind.u8 (IntKind.wrap IntKind.u8 (IntKind.wrap IntKind.i64 (97 + k)))]]) 0])))))), Subtype.val (Subtype.mk (ByteArray.get! (rowBytes [[AVal.int IntKind.u8 117], [AVal.int IntKind.u8 (IntKind.wrap IntKind.u8 (IntKind.wrap IntKind.i64 (97 + k)))]]) 1) (And.left (Iff.mp List.forall_mem_cons (List.attach._proof_1 [ByteArray.get! (rowBytes [[AVal.int IntKind.u8 117], [AVal.int IntKind.u8 (IntKind.wrap IntKind.u8 (IntKind.wrap IntKind.i64 (97 + k)))]]) 1, ByteArray.get! (rowBytes [[AVal.int IntKind.u8 117], [AVal.int IntKind.u8 (IntKind.wrap IntKind.u8 (IntKind.wrap IntKind.i64 (97 + k)))]]) 0]))))]) = true) => ⟨_, _, _, ukB_3 nb n k th vs ln (c3) ((((h.1 c0).2.2.2.2 c1).2 c2).2.2.1) ((((h.1 c0).2.2.2.2 c1).2 c2).2.1) ((((h.1 c0).2.2.2.2 c1).2 c2).1) (c2) (c1) ((h.1 c0).2.2.1) ((h.1 c0).2.1) ((h.1 c0).1) (c0), ((((h.1 c0).2.2.2.2 c1).2 c2).2.2.2.1 c3)⟩) (fun (c3 : (!ByteArray.toList (AVal.toStr (List.getD (List.getD vs (Int.toNat n) []) 0 AVal.any)) == [Subtype.val (Subtype.mk (ByteArray.get! (rowBytes [[AVal.int IntKind.u8 117], [AVal.int IntKind.u8 (IntKind.wrap IntKind.u8 (IntKind.wrap IntKind.i64 (97 + k)))]]) 0) (And.left (Iff.mp List.forall_mem_cons (And.right (Iff.mp List.forall_mem_cons (List.attach._proof_1 [ByteArray.get! (rowBytes [[AVal.int IntKind.u8 117], [AVal.int IntKind.u8 (IntKind.wrap IntKind.u8 (IntKind.wrap IntKind.i64 (97 + k)))]]) 1, ByteArray.get! (rowBytes [[AVal.int IntKind.u8 117], [AVal.int IntKind.u8 (IntKind.wrap IntKind.u8 (IntKind.wrap IntKind.i64 (97 + k)))]]) 0])))))), Subtype.val (Subtype.mk (ByteArray.get! (rowBytes [[AVal.int IntKind.u8 117], [AVal.int IntKind.u8 (IntKind.wrap IntKind.u8 (IntKind.wrap IntKind.i64 (97 + k)))]]) 1) (And.left (Iff.mp List.forall_mem_cons (List.attach._proof_1 [ByteArray.get! (rowBytes [[AVal.int IntKind.u8 117], [AVal.int IntKind.u8 (IntKind.wrap IntKind.u8 (IntKind.wrap IntKind.i64 (97 + k)))]]) 1, ByteArray.get! (rowBytes [[AVal.int IntKind.u8 117], [AVal.int IntKind.u8 (IntKind.wrap IntKind.u8 (IntKind.wrap IntKind.i64 (97 + k)))]]) 0]))))]) = false) => ⟨_, _, _, ukB_4 nb n k th vs ln (c3) ((((h.1 c0).2.2.2.2 c1).2 c2).2.2.1) ((((h.1 c0).2.2.2.2 c1).2 c2).2.1) ((((h.1 c0).2.2.2.2 c1).2 c2).1) (c2) (c1) ((h.1 c0).2.2.1) ((h.1 c0).2.1) ((h.1 c0).1) (c0), ((((h.1 c0).2.2.2.2 c1).2 c2).2.2.2.2 c3)⟩)))) (fun (c0 : decide (k < 16) = false) => ⟨_, _, _, ukB_5 nb n k th vs ln (c0), (h.2 c0)⟩)


theorem usr_1 (ub : Bool) (rows : List (List AVal)) (off : Int) (i : Int) (mem : Ents) (mem2 : Ents) (uo : ByteArray) (th : List (List AVal)) (th2 : List (List AVal)) (vs : List (List AVal)) (nb : Bool) (ln : Nat) (n2 : Int)
    (h1 : FOk Tryd.prog 14 [] [] (AVal.bool true) [])
    (h2 : (n2 == (↑ln : Int)) = true)
    (h3 : TripN Tryd.prog 0 (Code.loop (loopNo Tryd.f7 1)) (mkR 123 [(6, AVal.slc false 0 1 0 16 (some 16)), (10, AVal.slc nb 1 1 0 ln none), (11, AVal.int IntKind.i64 0), (12, AVal.int IntKind.i64 0), (13, AVal.int IntKind.i64 0)]) [AObj.rows true 1 (List.set th (Int.toNat (bits BinOp.and IntKind.i64 off 15)) (setCells (List.getD th (Int.toNat (bits BinOp.and IntKind.i64 off 15)) []) 0 [AVal.tt false])), AObj.rows true 1 vs] (AExit.exit 2) (mkR 123 [(6, AVal.slc false 0 1 0 16 (some 16)), (10, AVal.slc nb 1 1 0 ln none), (11, AVal.int IntKind.i64 0), (12, AVal.int IntKind.i64 n2), (13, AVal.int IntKind.i64 16)]) [AObj.rows true 1 th2, AObj.rows true 1 vs])
    (h4 : FOk Tryd.prog 16 [AVal.ptr 0 2 0 0, AVal.str (ByteArray.mk #[119]), AVal.str (ByteArray.mk #[99])] [AObj.rows false 2 [[AVal.map 1, AVal.map 2]], AObj.mq [] [(AVal.agg [AVal.str vw, AVal.str vc], AVal.ptr 3 2 0 0)] [], AObj.mp true [(AVal.str uo, AVal.tt true)], AObj.rows false 2 [[AVal.map 4, AVal.slc true 5 2 0 0 none]], AObj.mp true mem2, AObj.rows true 2 []] (AVal.tuple [AVal.slc nb 6 1 0 ln none, AVal.int IntKind.i64 0]) [AObj.rows false 2 [[AVal.map 1, AVal.map 2]], AObj.mq [] [(AVal.agg [AVal.str vw, AVal.str vc], AVal.ptr 3 2 0 0)] [], AObj.mp true [(AVal.str uo, AVal.tt true)], AObj.rows false 2 [[AVal.map 4, AVal.slc true 5 2 0 0 none]], AObj.mp true mem2, AObj.rows true 2 [], AObj.rows true 1 vs])
    (h5 : FOk Tryd.prog 13 [AVal.ptr 0 2 0 0, AVal.agg [AVal.int IntKind.i64 7, AVal.str (ByteArray.mk #[]), AVal.str (ByteArray.mk #[]), AVal.str (rowBytes [[AVal.int IntKind.u8 117], [AVal.int IntKind.u8 (IntKind.wrap IntKind.u8 (IntKind.wrap IntKind.i64 (97 + bits BinOp.and IntKind.i64 off 15)))]]), AVal.str (ByteArray.mk #[]), AVal.str (ByteArray.mk #[]), AVal.str (ByteArray.mk #[]), AVal.int IntKind.i64 0, AVal.int IntKind.i64 0]] [AObj.rows false 2 [[AVal.map 1, AVal.map 2]], AObj.mq [] [(AVal.agg [AVal.str vw, AVal.str vc], AVal.ptr 3 2 0 0)] [], AObj.mp true [], AObj.rows false 2 [[AVal.map 4, AVal.slc true 5 2 0 0 none]], AObj.mp true mem, AObj.rows true 2 []] (AVal.agg [AVal.int IntKind.i64 0, AVal.int IntKind.i64 0, AVal.fsl true 2 [] none]) [AObj.rows false 2 [[AVal.map 1, AVal.map 2]], AObj.mq [] [(AVal.agg [AVal.str vw, AVal.str vc], AVal.ptr 3 2 0 0)] [], AObj.mp true [(AVal.str uo, AVal.tt true)], AObj.rows false 2 [[AVal.map 4, AVal.slc true 5 2 0 0 none]], AObj.mp true mem2, AObj.rows true 2 []])
    (h6 : decide (Int.toNat (bits BinOp.and IntKind.i64 off 15) < List.length th) = true)
    (h7 : decide (0 ≤ bits BinOp.and IntKind.i64 off 15 ∧ bits BinOp.and IntKind.i64 off 15 < (↑16 : Int)) = true)
    (h8 : TripN Tryd.prog 0 (Code.loop (loopNo Tryd.f7 0)) (mkR 123 [(0, AVal.fsl ub 1 rows none), (1, AVal.int IntKind.i64 off), (5, AVal.ptr 0 2 0 0), (6, AVal.slc false 1 1 0 16 (some 16)), (7, AVal.int IntKind.i64 0)]) [AObj.rows false 2 [[AVal.map 2, AVal.map 3]], AObj.rows true 1 [[AVal.tt false], [AVal.tt false], [AVal.tt false], [AVal.tt false], [AVal.tt false], [AVal.tt false], [AVal.tt false], [AVal.tt false], [AVal.tt false], [AVal.tt false], [AVal.tt false], [AVal.tt false], [AVal.tt false], [AVal.tt false], [AVal.tt false], [AVal.tt false]], AObj.mq [] [(AVal.agg [AVal.str vw, AVal.str vc], AVal.ptr 4 2 0 0)] [], AObj.mp true [], AObj.rows false 2 [[AVal.map 5, AVal.slc true 6 2 0 0 none]], AObj.mp true [], AObj.rows true 2 []] (AExit.exit 0) (mkR 123 [(0, AVal.fsl ub 1 rows none), (1, AVal.int IntKind.i64 off), (5, AVal.ptr 0 2 0 0), (6, AVal.slc false 1 1 0 16 (some 16)), (7, AVal.int IntKind.i64 i)]) [AObj.rows false 2 [[AVal.map 2, AVal.map 3]], AObj.rows true 1 th, AObj.mq [] [(AVal.agg [AVal.str vw, AVal.str vc], AVal.ptr 4 2 0 0)] [], AObj.mp true [], AObj.rows false 2 [[AVal.map 5, AVal.slc true 6 2 0 0 none]], AObj.mp true mem, AObj.rows true 2 []])
    (h9 : FOk Tryd.prog 13 [AVal.ptr 0 2 0 0, AVal.agg [AVal.int IntKind.i64 1, AVal.str (ByteArray.mk #[119]), AVal.str (ByteArray.mk #[99]), AVal.str (ByteArray.mk #[]), AVal.str (ByteArray.mk #[]), AVal.str (ByteArray.mk #[]), AVal.str (ByteArray.mk #[]), AVal.int IntKind.i64 0, AVal.int IntKind.i64 0]] [AObj.rows false 2 [[AVal.map 1, AVal.map 2]], AObj.mq [] [] [], AObj.mp true []] (AVal.agg [AVal.int IntKind.i64 0, AVal.int IntKind.i64 0, AVal.fsl true 2 [] none]) [AObj.rows false 2 [[AVal.map 1, AVal.map 2]], AObj.mq [] [(AVal.agg [AVal.str vw, AVal.str vc], AVal.ptr 3 2 0 0)] [], AObj.mp true [], AObj.rows false 2 [[AVal.map 4, AVal.slc true 5 2 0 0 none]], AObj.mp true [], AObj.rows true 2 []])
    (h10 : FOk Tryd.prog 12 [] [] (AVal.ptr 0 2 0 0) [AObj.rows false 2 [[AVal.map 1, AVal.map 2]], AObj.mq [] [] [], AObj.mp true []]) :
    FOk Tryd.prog 7 ([AVal.fsl ub 1 rows none, AVal.int IntKind.i64 off]) ([]) (AVal.bool true) ([]) :=
  (evalF_ok followed Tryd.func7 (by kernel_rfl) (show evalF Tryd.prog Tryd.f7 ([AVal.fsl ub 1 rows none, AVal.int IntKind.i64 off]) ([]) ([Dec.use [] [] [] (AVal.ptr 0 2 0 0) (H3 [] []), Dec.br false, Dec.use [0, 1, 2] [AVal.ptr 0 2 0 0, AVal.agg [AVal.int IntKind.i64 1, AVal.str (ByteArray.mk #[119]), AVal.str (ByteArray.mk #[99]), AVal.str (ByteArray.mk #[]), AVal.str (ByteArray.mk #[]), AVal.str (ByteArray.mk #[]), AVal.str (ByteArray.mk #[]), AVal.int IntKind.i64 0, AVal.int IntKind.i64 0]] [AObj.rows false 2 [[AVal.map 1, AVal.map 2]], AObj.mq [] [] [], AObj.mp true []] (rep 0 0 nilps) (H6 [] [] vw vc [] [] true []), Dec.compact (keepM 123 [0, 1, 5, 6, 7]) [0, 6, 1, 2, 3, 4, 5], Dec.loop (AExit.exit 0) (rgU ub rows off i) (HU mem th), Dec.use [0, 2, 3, 4, 5, 6] [AVal.ptr 0 2 0 0, AVal.agg [AVal.int IntKind.i64 7, AVal.str (ByteArray.mk #[]), AVal.str (ByteArray.mk #[]), AVal.str (rowBytes [[AVal.int IntKind.u8 117], [AVal.int IntKind.u8 (IntKind.wrap IntKind.u8 (IntKind.wrap IntKind.i64 (97 + bits BinOp.and IntKind.i64 off 15)))]]), AVal.str (ByteArray.mk #[]), AVal.str (ByteArray.mk #[]), AVal.str (ByteArray.mk #[]), AVal.int IntKind.i64 0, AVal.int IntKind.i64 0]] [AObj.rows false 2 [[AVal.map 1, AVal.map 2]], AObj.mq [] [(AVal.agg [AVal.str vw, AVal.str vc], AVal.ptr 3 2 0 0)] [], AObj.mp true [], AObj.rows false 2 [[AVal.map 4, AVal.slc true 5 2 0 0 none]], AObj.mp true mem, AObj.rows true 2 []] (rep 0 0 nilps) (H6 [] [] vw vc [gm uo] mem2 true []), Dec.br false, Dec.use [0, 2, 3, 4, 5, 6] [AVal.ptr 0 2 0 0, AVal.str (ByteArray.mk #[119]), AVal.str (ByteArray.mk #[99])] [AObj.rows false 2 [[AVal.map 1, AVal.map 2]], AObj.mq [] [(AVal.agg [AVal.str vw, AVal.str vc], AVal.ptr 3 2 0 0)] [], AObj.mp true [(AVal.str uo, AVal.tt true)], AObj.rows false 2 [[AVal.map 4, AVal.slc true 5 2 0 0 none]], AObj.mp true mem2, AObj.rows true 2 []] (AVal.tuple [AVal.slc nb 6 1 0 ln none, AVal.int IntKind.i64 0]) (H6 [] [] vw vc [gm uo] mem2 true [] ++ [AObj.rows true 1 vs]), Dec.compact (keepM 123 [6, 10, 11, 12, 13]) [1, 8], Dec.loop (AExit.exit 2) (rgL nb 0 n2 16 ln) [AObj.rows true 1 th2, AObj.rows true 1 vs], Dec.br true, Dec.br true, Dec.use [] [] [] (AVal.bool true) []]) = .ok (FRes.mk (AVal.bool true) ([AObj.rows true 1 th2, AObj.rows true 1 vs]) ((Owed.use (owed Tryd.prog 0) 14 [] [] [AObj.rows true 1 th2, AObj.rows true 1 vs] [] [] (AVal.bool true) []) :: (((n2 == (↑ln : Int)) = true) :: (tr 1 ++ ((Owed.loop (owed Tryd.prog 0) (loopNo Tryd.f7 1) (mkR 123 [(6, AVal.slc false 0 1 0 16 (some 16)), (10, AVal.slc nb 1 1 0 ln none), (11, AVal.int IntKind.i64 0), (12, AVal.int IntKind.i64 0), (13, AVal.int IntKind.i64 0)]) [AObj.rows true 1 (List.set th (Int.toNat (bits BinOp.and IntKind.i64 off 15)) (setCells (List.getD th (Int.toNat (bits BinOp.and IntKind.i64 off 15)) []) 0 [AVal.tt false])), AObj.rows true 1 vs] (AExit.exit 2) (mkR 123 [(6, AVal.slc false 0 1 0 16 (some 16)), (10, AVal.slc nb 1 1 0 ln none), (11, AVal.int IntKind.i64 0), (12, AVal.int IntKind.i64 n2), (13, AVal.int IntKind.i64 16)]) [AObj.rows true 1 th2, AObj.rows true 1 vs]) :: ((Owed.use (owed Tryd.prog 0) 16 [0, 2, 3, 4, 5, 6] [AVal.ptr 0 2 0 0, AVal.str (ByteArray.mk #[119]), AVal.str (ByteArray.mk #[99])] [AObj.rows false 2 [[AVal.map 2, AVal.map 3]], AObj.rows true 1 (List.set th (Int.toNat (bits BinOp.and IntKind.i64 off 15)) (setCells (List.getD th (Int.toNat (bits BinOp.and IntKind.i64 off 15)) []) 0 [AVal.tt false])), AObj.mq [] [(AVal.agg [AVal.str vw, AVal.str vc], AVal.ptr 4 2 0 0)] [], AObj.mp true [(AVal.str uo, AVal.tt true)], AObj.rows false 2 [[AVal.map 5, AVal.slc true 6 2 0 0 none]], AObj.mp true mem2, AObj.rows true 2 [], AObj.rows true 1 [[AVal.int IntKind.u8 117], [AVal.int IntKind.u8 (IntKind.wrap IntKind.u8 (IntKind.wrap IntKind.i64 (97 + bits BinOp.and IntKind.i64 off 15)))]]] [AVal.ptr 0 2 0 0, AVal.str (ByteArray.mk #[119]), AVal.str (ByteArray.mk #[99])] [AObj.rows false 2 [[AVal.map 1, AVal.map 2]], AObj.mq [] [(AVal.agg [AVal.str vw, AVal.str vc], AVal.ptr 3 2 0 0)] [], AObj.mp true [(AVal.str uo, AVal.tt true)], AObj.rows false 2 [[AVal.map 4, AVal.slc true 5 2 0 0 none]], AObj.mp true mem2, AObj.rows true 2 []] (AVal.tuple [AVal.slc nb 6 1 0 ln none, AVal.int IntKind.i64 0]) [AObj.rows false 2 [[AVal.map 1, AVal.map 2]], AObj.mq [] [(AVal.agg [AVal.str vw, AVal.str vc], AVal.ptr 3 2 0 0)] [], AObj.mp true [(AVal.str uo, AVal.tt true)], AObj.rows false 2 [[AVal.map 4, AVal.slc true 5 2 0 0 none]], AObj.mp true mem2, AObj.rows true 2 [], AObj.rows true 1 vs]) :: ((false = false) :: ((Owed.use (owed Tryd.prog 0) 13 [0, 2, 3, 4, 5, 6] [AVal.ptr 0 2 0 0, AVal.agg [AVal.int IntKind.i64 7, AVal.str (ByteArray.mk #[]), AVal.str (ByteArray.mk #[]), AVal.str (rowBytes [[AVal.int IntKind.u8 117], [AVal.int IntKind.u8 (IntKind.wrap IntKind.u8 (IntKind.wrap IntKind.i64 (97 + bits BinOp.and IntKind.i64 off 15)))]]), AVal.str (ByteArray.mk #[]), AVal.str (ByteArray.mk #[]), AVal.str (ByteArray.mk #[]), AVal.int IntKind.i64 0, AVal.int IntKind.i64 0]] [AObj.rows false 2 [[AVal.map 2, AVal.map 3]], AObj.rows true 1 (List.set th (Int.toNat (bits BinOp.and IntKind.i64 off 15)) (setCells (List.getD th (Int.toNat (bits BinOp.and IntKind.i64 off 15)) []) 0 [AVal.tt false])), AObj.mq [] [(AVal.agg [AVal.str vw, AVal.str vc], AVal.ptr 4 2 0 0)] [], AObj.mp true [], AObj.rows false 2 [[AVal.map 5, AVal.slc true 6 2 0 0 none]], AObj.mp true mem, AObj.rows true 2 [], AObj.rows true 1 [[AVal.int IntKind.u8 117], [AVal.int IntKind.u8 (IntKind.wrap IntKind.u8 (IntKind.wrap IntKind.i64 (97 + bits BinOp.and IntKind.i64 off 15)))]]] [AVal.ptr 0 2 0 0, AVal.agg [AVal.int IntKind.i64 7, AVal.str (ByteArray.mk #[]), AVal.str (ByteArray.mk #[]), AVal.str (rowBytes [[AVal.int IntKind.u8 117], [AVal.int IntKind.u8 (IntKind.wrap IntKind.u8 (IntKind.wrap IntKind.i64 (97 + bits BinOp.and IntKind.i64 off 15)))]]), AVal.str (ByteArray.mk #[]), AVal.str (ByteArray.mk #[]), AVal.str (ByteArray.mk #[]), AVal.int IntKind.i64 0, AVal.int IntKind.i64 0]] [AObj.rows false 2 [[AVal.map 1, AVal.map 2]], AObj.mq [] [(AVal.agg [AVal.str vw, AVal.str vc], AVal.ptr 3 2 0 0)] [], AObj.mp true [], AObj.rows false 2 [[AVal.map 4, AVal.slc true 5 2 0 0 none]], AObj.mp true mem, AObj.rows true 2 []] (AVal.agg [AVal.int IntKind.i64 0, AVal.int IntKind.i64 0, AVal.fsl true 2 [] none]) [AObj.rows false 2 [[AVal.map 1, AVal.map 2]], AObj.mq [] [(AVal.agg [AVal.str vw, AVal.str vc], AVal.ptr 3 2 0 0)] [], AObj.mp true [(AVal.str uo, AVal.tt true)], AObj.rows false 2 [[AVal.map 4, AVal.slc true 5 2 0 0 none]], AObj.mp true mem2, AObj.rows true 2 []]) :: (tr 3 ++ ((decide (Int.toNat (bits BinOp.and IntKind.i64 off 15) < List.length th) = true) :: (tr 1 ++ ((decide (0 ≤ bits BinOp.and IntKind.i64 off 15 ∧ bits BinOp.and IntKind.i64 off 15 < (↑16 : Int)) = true) :: ((Owed.loop (owed Tryd.prog 0) (loopNo Tryd.f7 0) (mkR 123 [(0, AVal.fsl ub 1 rows none), (1, AVal.int IntKind.i64 off), (5, AVal.ptr 0 2 0 0), (6, AVal.slc false 1 1 0 16 (some 16)), (7, AVal.int IntKind.i64 0)]) [AObj.rows false 2 [[AVal.map 2, AVal.map 3]], AObj.rows true 1 [[AVal.tt false], [AVal.tt false], [AVal.tt false], [AVal.tt false], [AVal.tt false], [AVal.tt false], [AVal.tt false], [AVal.tt false], [AVal.tt false], [AVal.tt false], [AVal.tt false], [AVal.tt false], [AVal.tt false], [AVal.tt false], [AVal.tt false], [AVal.tt false]], AObj.mq [] [(AVal.agg [AVal.str vw, AVal.str vc], AVal.ptr 4 2 0 0)] [], AObj.mp true [], AObj.rows false 2 [[AVal.map 5, AVal.slc true 6 2 0 0 none]], AObj.mp true [], AObj.rows true 2 []] (AExit.exit 0) (mkR 123 [(0, AVal.fsl ub 1 rows none), (1, AVal.int IntKind.i64 off), (5, AVal.ptr 0 2 0 0), (6, AVal.slc false 1 1 0 16 (some 16)), (7, AVal.int IntKind.i64 i)]) [AObj.rows false 2 [[AVal.map 2, AVal.map 3]], AObj.rows true 1 th, AObj.mq [] [(AVal.agg [AVal.str vw, AVal.str vc], AVal.ptr 4 2 0 0)] [], AObj.mp true [], AObj.rows false 2 [[AVal.map 5, AVal.slc true 6 2 0 0 none]], AObj.mp true mem, AObj.rows true 2 []]) :: (tr 1 ++ ((Owed.use (owed Tryd.prog 0) 13 [0, 1, 2] [AVal.ptr 0 2 0 0, AVal.agg [AVal.int IntKind.i64 1, AVal.str (ByteArray.mk #[119]), AVal.str (ByteArray.mk #[99]), AVal.str (ByteArray.mk #[]), AVal.str (ByteArray.mk #[]), AVal.str (ByteArray.mk #[]), AVal.str (ByteArray.mk #[]), AVal.int IntKind.i64 0, AVal.int IntKind.i64 0]] [AObj.rows false 2 [[AVal.map 1, AVal.map 2]], AObj.mq [] [] [], AObj.mp true []] [AVal.ptr 0 2 0 0, AVal.agg [AVal.int IntKind.i64 1, AVal.str (ByteArray.mk #[119]), AVal.str (ByteArray.mk #[99]), AVal.str (ByteArray.mk #[]), AVal.str (ByteArray.mk #[]), AVal.str (ByteArray.mk #[]), AVal.str (ByteArray.mk #[]), AVal.int IntKind.i64 0, AVal.int IntKind.i64 0]] [AObj.rows false 2 [[AVal.map 1, AVal.map 2]], AObj.mq [] [] [], AObj.mp true []] (AVal.agg [AVal.int IntKind.i64 0, AVal.int IntKind.i64 0, AVal.fsl true 2 [] none]) [AObj.rows false 2 [[AVal.map 1, AVal.map 2]], AObj.mq [] [(AVal.agg [AVal.str vw, AVal.str vc], AVal.ptr 3 2 0 0)] [], AObj.mp true [], AObj.rows false 2 [[AVal.map 4, AVal.slc true 5 2 0 0 none]], AObj.mp true [], AObj.rows true 2 []]) :: ((false = false) :: ((Owed.use (owed Tryd.prog 0) 12 [] [] [] [] [] (AVal.ptr 0 2 0 0) [AObj.rows false 2 [[AVal.map 1, AVal.map 2]], AObj.mq [] [] [], AObj.mp true []]) :: []))))))))))))))))) by kernel_rfl) (allP_of ⟨⟨h1, rfl, rfl, rfl⟩, ⟨h2, (trC 1 ⟨h3, ⟨⟨h4, rfl, rfl, rfl⟩, ⟨rfl, ⟨⟨h5, rfl, rfl, rfl⟩, (trC 3 ⟨h6, (trC 1 ⟨h7, ⟨h8, (trC 1 ⟨⟨h9, rfl, rfl, rfl⟩, ⟨rfl, ⟨⟨h10, rfl, rfl, rfl⟩, trivial⟩⟩⟩)⟩⟩)⟩)⟩⟩⟩⟩)⟩⟩)).move ([]) (by kernel_rfl) (by kernel_rfl) (by kernel_rfl)

def usr_T (ub : Bool) (rows : List (List AVal)) (off : Int) (i : Int) (mem : Ents) (mem2 : Ents) (uo : ByteArray) (th : List (List AVal)) (th2 : List (List AVal)) (vs : List (List AVal)) (nb : Bool) (ln : Nat) (n2 : Int) (Q : AVal → AState → Prop) : Prop := (FOk Tryd.prog 12 [] [] (AVal.ptr 0 2 0 0) [AObj.rows false 2 [[AVal.map 1, AVal.map 2]], AObj.mq [] [] [], AObj.mp true []]) ∧ (FOk Tryd.prog 13 [AVal.ptr 0 2 0 0, AVal.agg [AVal.int IntKind.i64 1, AVal.str (ByteArray.mk #[119]), AVal.str (ByteArray.mk #[99]), AVal.str (ByteArray.mk #[]), AVal.str (ByteArray.mk #[]), AVal.str (ByteArray.mk #[]), AVal.str (ByteArray.mk #[]), AVal.int IntKind.i64 0, AVal.int IntKind.i64 0]] [AObj.rows false 2 [[AVal.map 1, AVal.map 2]], AObj.mq [] [] [], AObj.mp true []] (AVal.agg [AVal.int IntKind.i64 0, AVal.int IntKind.i64 0, AVal.fsl true 2 [] none]) [AObj.rows false 2 [[AVal.map 1, AVal.map 2]], AObj.mq [] [(AVal.agg [AVal.str vw, AVal.str vc], AVal.ptr 3 2 0 0)] [], AObj.mp true [], AObj.rows false 2 [[AVal.map 4, AVal.slc true 5 2 0 0 none]], AObj.mp true [], AObj.rows true 2 []]) ∧ (TripN Tryd.prog 0 (Code.loop (loopNo Tryd.f7 0)) (mkR 123 [(0, AVal.fsl ub 1 rows none), (1, AVal.int IntKind.i64 off), (5, AVal.ptr 0 2 0 0), (6, AVal.slc false 1 1 0 16 (some 16)), (7, AVal.int IntKind.i64 0)]) [AObj.rows false 2 [[AVal.map 2, AVal.map 3]], AObj.rows true 1 [[AVal.tt false], [AVal.tt false], [AVal.tt false], [AVal.tt false], [AVal.tt false], [AVal.tt false], [AVal.tt false], [AVal.tt false], [AVal.tt false], [AVal.tt false], [AVal.tt false], [AVal.tt false], [AVal.tt false], [AVal.tt false], [AVal.tt false], [AVal.tt false]], AObj.mq [] [(AVal.agg [AVal.str vw, AVal.str vc], AVal.ptr 4 2 0 0)] [], AObj.mp true [], AObj.rows false 2 [[AVal.map 5, AVal.slc true 6 2 0 0 none]], AObj.mp true [], AObj.rows true 2 []] (AExit.exit 0) (mkR 123 [(0, AVal.fsl ub 1 rows none), (1, AVal.int IntKind.i64 off), (5, AVal.ptr 0 2 0 0), (6, AVal.slc false 1 1 0 16 (some 16)), (7, AVal.int IntKind.i64 i)]) [AObj.rows false 2 [[AVal.map 2, AVal.map 3]], AObj.rows true 1 th, AObj.mq [] [(AVal.agg [AVal.str vw, AVal.str vc], AVal.ptr 4 2 0 0)] [], AObj.mp true [], AObj.rows false 2 [[AVal.map 5, AVal.slc true 6 2 0 0 none]], AObj.mp true mem, AObj.rows true 2 []]) ∧ (decide (0 ≤ bits BinOp.and IntKind.i64 off 15 ∧ bits BinOp.and IntKind.i64 off 15 < (↑16 : Int)) = true) ∧ (decide (Int.toNat (bits BinOp.and IntKind.i64 off 15) < List.length th) = true) ∧ (FOk Tryd.prog 13 [AVal.ptr 0 2 0 0, AVal.agg [AVal.int IntKind.i64 7, AVal.str (ByteArray.mk #[]), AVal.str (ByteArray.mk #[]), AVal.str (rowBytes [[AVal.int IntKind.u8 117], [AVal.int IntKind.u8 (IntKind.wrap IntKind.u8 (IntKind.wrap IntKind.i64 (97 + bits BinOp.and IntKind.i64 off 15)))]]), AVal.str (ByteArray.mk #[]), AVal.str (ByteArray.mk #[]), AVal.str (ByteArray.mk #[]), AVal.int IntKind.i64 0, AVal.int IntKind.i64 0]] [AObj.rows false 2 [[AVal.map 1, AVal.map 2]], AObj.mq [] [(AVal.agg [AVal.str vw, AVal.str vc], AVal.ptr 3 2 0 0)] [], AObj.mp true [], AObj.rows false 2 [[AVal.map 4, AVal.slc true 5 2 0 0 none]], AObj.mp true mem, AObj.rows true 2 []] (AVal.agg [AVal.int IntKind.i64 0, AVal.int IntKind.i64 0, AVal.fsl true 2 [] none]) [AObj.rows false 2 [[AVal.map 1, AVal.map 2]], AObj.mq [] [(AVal.agg [AVal.str vw, AVal.str vc], AVal.ptr 3 2 0 0)] [], AObj.mp true [(AVal.str uo, AVal.tt true)], AObj.rows false 2 [[AVal.map 4, AVal.slc true 5 2 0 0 none]], AObj.mp true mem2, AObj.rows true 2 []]) ∧ (FOk Tryd.prog 16 [AVal.ptr 0 2 0 0, AVal.str (ByteArray.mk #[119]), AVal.str (ByteArray.mk #[99])] [AObj.rows false 2 [[AVal.map 1, AVal.map 2]], AObj.mq [] [(AVal.agg [AVal.str vw, AVal.str vc], AVal.ptr 3 2 0 0)] [], AObj.mp true [(AVal.str uo, AVal.tt true)], AObj.rows false 2 [[AVal.map 4, AVal.slc true 5 2 0 0 none]], AObj.mp true mem2, AObj.rows true 2 []] (AVal.tuple [AVal.slc nb 6 1 0 ln none, AVal.int IntKind.i64 0]) [AObj.rows false 2 [[AVal.map 1, AVal.map 2]], AObj.mq [] [(AVal.agg [AVal.str vw, AVal.str vc], AVal.ptr 3 2 0 0)] [], AObj.mp true [(AVal.str uo, AVal.tt true)], AObj.rows false 2 [[AVal.map 4, AVal.slc true 5 2 0 0 none]], AObj.mp true mem2, AObj.rows true 2 [], AObj.rows true 1 vs]) ∧ (TripN Tryd.prog 0 (Code.loop (loopNo Tryd.f7 1)) (mkR 123 [(6, AVal.slc false 0 1 0 16 (some 16)), (10, AVal.slc nb 1 1 0 ln none), (11, AVal.int IntKind.i64 0), (12, AVal.int IntKind.i64 0), (13, AVal.int IntKind.i64 0)]) [AObj.rows true 1 (List.set th (Int.toNat (bits BinOp.and IntKind.i64 off 15)) (setCells (List.getD th (Int.toNat (bits BinOp.and IntKind.i64 off 15)) []) 0 [AVal.tt false])), AObj.rows true 1 vs] (AExit.exit 2) (mkR 123 [(6, AVal.slc false 0 1 0 16 (some 16)), (10, AVal.slc nb 1 1 0 ln none), (11, AVal.int IntKind.i64 0), (12, AVal.int IntKind.i64 n2), (13, AVal.int IntKind.i64 16)]) [AObj.rows true 1 th2, AObj.rows true 1 vs]) ∧ ((n2 == (↑ln : Int)) = true) ∧ (FOk Tryd.prog 14 [] [] (AVal.bool true) []) ∧ Q (AVal.bool true) ([])
theorem usr_wp (ub : Bool) (rows : List (List AVal)) (off : Int) (i : Int) (mem : Ents) (mem2 : Ents) (uo : ByteArray) (th : List (List AVal)) (th2 : List (List AVal)) (vs : List (List AVal)) (nb : Bool) (ln : Nat) (n2 : Int) {Q : AVal → AState → Prop} (h : usr_T ub rows off i mem mem2 uo th th2 vs nb ln n2 Q) : ∃ r σ', FOk Tryd.prog 7 ([AVal.fsl ub 1 rows none, AVal.int IntKind.i64 off]) ([]) r σ' ∧ Q r σ' :=
  ⟨_, _, usr_1 ub rows off i mem mem2 uo th th2 vs nb ln n2 (h.2.2.2.2.2.2.2.2.2.1) (h.2.2.2.2.2.2.2.2.1) (h.2.2.2.2.2.2.2.1) (h.2.2.2.2.2.2.1) (h.2.2.2.2.2.1) (h.2.2.2.2.1) (h.2.2.2.1) (h.2.2.1) (h.2.1) (h.1), h.2.2.2.2.2.2.2.2.2.2⟩


end Go.MN
end

section
set_option linter.unusedVariables false
set_option linter.unusedSimpArgs false
set_option maxRecDepth 100000
namespace Go.MN
open Go Go.Abs Go.Proofs

def laysSort_ren : Go.Shelf.Ren := ⟨fun | 190 => 33 | 125 => 47 | 258 => 46 | 128 => 67 | 129 => 68 | 302 => 58 | 303 => 59 | 304 => 60 | 305 => 61 | 306 => 62 | 307 => 63 | 308 => 64 | 309 => 65 | 310 => 66 | 333 => 72 | 329 => 73 | 330 => 74 | 334 => 75 | 335 => 76 | 336 => 77 | 344 => 80 | n => n, fun | 31 => 25 | 9 => 9 | 3 => 3 | 46 => 94 | 0 => 0 | 51 => 111 | 53 => 113 | 4 => 4 | 183 => 103 | 182 => 102 | 131 => 108 | 5 => 5 | 218 => 121 | 222 => 125 | 228 => 129 | 229 => 130 | n => n, fun | n => n⟩
theorem laysSort : Go.Proofs.Lays.n190 Tryd.prog laysSort_ren where
  mixed := by kernel_rfl
  f125 := Tryd.func47.trans (congrArg some (by kernel_rfl))
  f128 := Tryd.func67.trans (congrArg some (by kernel_rfl))
  f129 := Tryd.func68.trans (congrArg some (by kernel_rfl))
  f190 := Tryd.func33.trans (congrArg some (by kernel_rfl))
  f258 := Tryd.func46.trans (congrArg some (by kernel_rfl))
  f302 := Tryd.func58.trans (congrArg some (by kernel_rfl))
  f303 := Tryd.func59.trans (congrArg some (by kernel_rfl))
  f304 := Tryd.func60.trans (congrArg some (by kernel_rfl))
  f305 := Tryd.func61.trans (congrArg some (by kernel_rfl))
  f306 := Tryd.func62.trans (congrArg some (by kernel_rfl))
  f307 := Tryd.func63.trans (congrArg some (by kernel_rfl))
  f308 := Tryd.func64.trans (congrArg some (by kernel_rfl))
  f309 := Tryd.func65.trans (congrArg some (by kernel_rfl))
  f310 := Tryd.func66.trans (congrArg some (by kernel_rfl))
  f329 := Tryd.func73.trans (congrArg some (by kernel_rfl))
  f330 := Tryd.func74.trans (congrArg some (by kernel_rfl))
  f333 := Tryd.func72.trans (congrArg some (by kernel_rfl))
  f334 := Tryd.func75.trans (congrArg some (by kernel_rfl))
  f335 := Tryd.func76.trans (congrArg some (by kernel_rfl))
  f336 := Tryd.func77.trans (congrArg some (by kernel_rfl))
  f344 := Tryd.func80.trans (congrArg some (by kernel_rfl))
  t0 := Tryd.underlying0
  a0 := Tryd.isAgg0
  z0 := Tryd.sizeOf0
  v0 := Tryd.zeroValue0
  t3 := Tryd.underlying3
  a3 := Tryd.isAgg3
  z3 := Tryd.sizeOf3
  v3 := Tryd.zeroValue3
  t4 := Tryd.underlying4
  a4 := Tryd.isAgg4
  z4 := Tryd.sizeOf4
  v4 := Tryd.zeroValue4
  t5 := Tryd.underlying5
  a5 := Tryd.isAgg5
  z5 := Tryd.sizeOf5
  v5 := Tryd.zeroValue5
  t9 := Tryd.underlying9
  a9 := Tryd.isAgg9
  z9 := Tryd.sizeOf9
  v9 := Tryd.zeroValue9
  t31 := Tryd.underlying25
  a31 := Tryd.isAgg25
  z31 := Tryd.sizeOf25
  v31 := Tryd.zeroValue25
  t46 := Tryd.underlying94
  a46 := Tryd.isAgg94
  z46 := Tryd.sizeOf94
  v46 := Tryd.zeroValue94
  t51 := Tryd.underlying111
  a51 := Tryd.isAgg111
  z51 := Tryd.sizeOf111
  v51 := Tryd.zeroValue111
  t53 := Tryd.underlying113
  a53 := Tryd.isAgg113
  z53 := Tryd.sizeOf113
  v53 := Tryd.zeroValue113
  t131 := Tryd.underlying108
  a131 := Tryd.isAgg108
  z131 := Tryd.sizeOf108
  v131 := Tryd.zeroValue108
  t182 := Tryd.underlying102
  a182 := Tryd.isAgg102
  z182 := Tryd.sizeOf102
  v182 := Tryd.zeroValue102
  t183 := Tryd.underlying103
  a183 := Tryd.isAgg103
  z183 := Tryd.sizeOf103
  v183 := Tryd.zeroValue103
  t218 := Tryd.underlying121
  a218 := Tryd.isAgg121
  z218 := Tryd.sizeOf121
  v218 := Tryd.zeroValue121
  t222 := Tryd.underlying125
  a222 := Tryd.isAgg125
  z222 := Tryd.sizeOf125
  v222 := Tryd.zeroValue125
  t228 := Tryd.underlying129
  a228 := Tryd.isAgg129
  z228 := Tryd.sizeOf129
  v228 := Tryd.zeroValue129
  t229 := Tryd.underlying130
  a229 := Tryd.isAgg130
  z229 := Tryd.sizeOf130
  v229 := Tryd.zeroValue130

abbrev bx (l : List UInt8) : ByteArray := ⟨l.toArray⟩
theorem sort_ok (ss : List (List UInt8)) (hne : ss ≠ []) (hs : ss.length < 4611686018427387904) :
    FOk Tryd.prog 33 [.slc false 0 1 0 ss.length none] [.rows true 1 (ss.map fun x => [.str (bx x)])] (.tuple []) [.rows true 1 ((ss.mergeSort fun x y => decide (x ≤ y)).map fun x => [.str (bx x)])] :=
  FOk.inRow encStr (fun x => .str (bx x)) (fun F w ρ x c h => h.str_inv) (fun F w x => .str _ _) ⟨_, _, rfl, by decide, rfl⟩ ss _ (by simp) hne fun blk cap w hH hb => Any.slices_Sort_string laysSort blk 0 cap ss w hH hb hs

theorem me6_loop (pre post : Ents) (s c : ByteArray) (off : List (AVal × AVal)) (us : List ByteArray) (bs : List Nat) (k : Nat) (ff : Bool) (ps : List (List AVal)) (hb : BRL bs k) (hl : bs.length = us.length) (hu : us.length ≤ 1000) :
    TripN Tryd.prog 6 (.loop (loopNo Tryd.f16 0)) (mkR 38 [(10, .slc true 6 1 0 0 none), (26, .ptr 7 1 0 0)]) (M6 pre post s c off us bs k ff ps ++ [.rows true 1 [], .miter (some 4) k [] k]) (.exit 0)
      (mkR 38 [(10, .slc us.isEmpty 6 1 0 us.length none)]) (M6 pre post s c off us bs k ff ps ++ [.bag 1 (us.map fun u => [.str u]), .dead]) := by
  let I : List Nat → Regs → AState → Prop := fun seen rg σ => seen.Nodup ∧ (∀ b ∈ seen, b ∈ bs) ∧ ∃ f rs, f = seen.isEmpty ∧ rs = (seen.map (pickB us bs w0)).map (fun u => [AVal.str u]) ∧
    rg = mkR 38 [(10, .slc f 6 1 0 rs.length none), (26, .ptr 7 1 0 0)] ∧ σ = M6 pre post s c off us bs k ff ps ++ [.rows true 1 rs, .miter (some 4) k seen k]
  have hL := mapLoop (P := Tryd.prog) (N := 6) (c := loopNo Tryd.f16 0) (rest := restOf (loopNo Tryd.f16 0)) (Post := fun e rg σ => e = .exit 0 ∧ ∃ seen, seen.Nodup ∧ (∀ b ∈ seen, b ∈ bs) ∧ (∀ b ∈ bs, b ∈ seen) ∧ ∃ f rs, f = seen.isEmpty ∧ rs = (seen.map (pickB us bs w0)).map (fun u => [AVal.str u]) ∧
      rg = mkR 38 [(10, .slc f 6 1 0 rs.length none), (26, .ptr 7 1 0 0)] ∧ σ = M6 pre post s c off us bs k ff ps ++ [.rows true 1 rs, .miter (some 4) k seen k]) rfl bs I ?_ _ _ [] ⟨List.nodup_nil, by simp, true, [], rfl, rfl, rfl, rfl⟩
  · refine (RunD.trip ((LoopD.runD hL).out ?_))
    rintro e rg σ ⟨rfl, seen, h1, h2, h3, f, rs, h4, h5, rfl, rfl⟩
    have hp := pick_perm w0 hb hl h1 h2 h3
    have hse : seen.isEmpty = us.isEmpty := by
      have := hp.length_eq
      rw [List.length_map] at this
      cases seen <;> cases us <;> first | rfl | simp at this
    rw [hse] at h4
    subst h4
    have hlen : rs.length = us.length := by rw [h5]; simp; rw [← hp.length_eq]; simp
    refine ⟨mkR 38 [(10, .slc us.isEmpty 6 1 0 us.length none)], _, ?_, rfl, rfl, rfl⟩
    refine Weak.trans (Weak.bagged (id := 6) (es := 1) (rs := us.map fun u => [AVal.str u]) rfl (by rw [h5]; exact hp.map _)) ?_
    refine Weak.trans (Weak.kill (id := 7) rfl) ?_
    rw [hlen]
    refine Weak.regs ?_
    exact keepR_imp (keepM 38 [10]) _
  · rintro seen rg σ ⟨h1, h2, f, rs, h4, h5, rfl, rfl⟩
    refine ⟨7, 1, 4, k, true, us.map gm, bs, rfl, rfl, rfl, (by show 27 < 38; decide), fun b hb => hb, fun b hb1 hb2 => RunD.of (me6B_wp pre post s c off us bs (seen ++ [b]) k ff ps (pickB us bs w0 b) f rs ?_), fun hall => RunD.of (me6X_wp pre post s c off us bs seen k ff ps f rs ?_)⟩
    · unfold me6B_T
      have hrl : rs.length ≤ 1000 := by
        rw [h5]; simp
        exact Nat.le_trans (nodup_le h1 h2) (by omega)
      rw [entV_pick gm w0 us bs seen b hl hb1]
      refine ⟨rfl, rfl, decide_eq_true (by omega), .inl ⟨rfl, nodup_snoc h1 hb2, fun x hx => ?_, false, rs ++ [[.str (pickB us bs w0 b)]], by simp, by rw [h5]; simp, ?_, rfl⟩⟩
      · rcases List.mem_append.1 hx with hx | hx
        · exact h2 x hx
        · simp at hx; subst hx; exact hb1
      · rw [Bool.and_false, List.length_append]; rfl
    · unfold me6X_T
      exact ⟨by simp, rfl, seen, h1, h2, hall, f, rs, h4, h5, rfl, rfl⟩


theorem offs_loop (s y : ByteArray) (off mem : List (AVal × AVal)) (b c : Nat) (u : ByteArray) (ps : List (List AVal)) (f : Bool) (hm : (mem.all fun p => keyKind Tryd.prog 9 p.1) = true) :
    TripN Tryd.prog 6 (.loop (loopNo Tryd.f13 0)) RO (HO [(ky s y, .ptr 3 2 0 0)] off mem [b] c [] u ps f) (.exit 1) RO (HO [(ky s y, .ptr 3 2 0 0)] off (adel (.str u) mem) [b] c [b] u ps f) := by
  let I : List Nat → Regs → AState → Prop := fun seen rg σ => (seen = [] ∧ rg = RO ∧ σ = HO [(ky s y, .ptr 3 2 0 0)] off mem [b] c [] u ps f) ∨ (seen = [b] ∧ rg = RO ∧ σ = HO [(ky s y, .ptr 3 2 0 0)] off (adel (.str u) mem) [b] c [b] u ps f)
  have hL := mapLoop (P := Tryd.prog) (N := 6) (c := loopNo Tryd.f13 0) (rest := restOf (loopNo Tryd.f13 0)) (Post := fun e rg σ => e = .exit 1 ∧ rg = RO ∧ σ = HO [(ky s y, .ptr 3 2 0 0)] off (adel (.str u) mem) [b] c [b] u ps f) rfl [b] I ?_ _ _ [] (.inl ⟨rfl, rfl, rfl⟩)
  · exact RunD.trip (LoopD.runD hL)
  · rintro seen rg σ (⟨rfl, rfl, rfl⟩ | ⟨rfl, rfl, rfl⟩)
    · refine ⟨8, 1, 1, c, false, _, [b], rfl, rfl, rfl, (by show 78 < 97; decide), fun b hb => hb, fun b' hb1 hb2 => ?_, fun hall => absurd (hall b (by simp)) (by simp)⟩
      obtain rfl : b' = b := by simpa using hb1
      refine RunD.of (offB_wp s y off mem b' c u ps f ?_)
      unfold offB_T
      refine ⟨?_, ?_, hm, .inl ⟨rfl, .inr ⟨rfl, rfl, rfl⟩⟩⟩ <;> simp [entV, entAt]
    · refine ⟨8, 1, 1, c, false, _, [b], rfl, rfl, rfl, (by show 78 < 97; decide), fun b hb => hb, fun b' hb1 hb2 => absurd hb1 hb2, fun hall => ?_⟩
      refine RunD.of (offX_wp s y off (adel (.str u) mem) b c u ps f ?_)
      unfold offX_T
      exact ⟨by simp, rfl, rfl, rfl⟩
end Go.MN
end

section
set_option linter.unusedVariables false
set_option maxRecDepth 100000
namespace Go.MN
open Go Go.Abs Go.Proofs
theorem l64_1 :
    FOk Tryd.prog 68 ([AVal.int IntKind.u64 0]) ([]) (AVal.int IntKind.i64 0) ([]) :=
  (evalF_ok followed Tryd.func68 (by kernel_rfl) (show evalF Tryd.prog Tryd.f68 ([AVal.int IntKind.u64 0]) ([]) ([Dec.br false, Dec.br false, Dec.br false]) = .ok (FRes.mk (AVal.int IntKind.i64 0) ([]) (tr 1 ++ ((false = false) :: ((false = false) :: ((false = false) :: []))))) by kernel_rfl) (allP_of (trC 1 ⟨rfl, ⟨rfl, ⟨rfl, trivial⟩⟩⟩))).move ([]) (by kernel_rfl) (by kernel_rfl) (by kernel_rfl)

def l64_T (Q : AVal → AState → Prop) : Prop := Q (AVal.int IntKind.i64 0) ([])
theorem l64_wp {Q : AVal → AState → Prop} (h : l64_T Q) : ∃ r σ', FOk Tryd.prog 68 ([AVal.int IntKind.u64 0]) ([]) r σ' ∧ Q r σ' :=
  ⟨_, _, l64_1, h⟩


theorem l0_1
    (h1 : FOk Tryd.prog 68 [AVal.int IntKind.u64 0] [] (AVal.int IntKind.i64 0) []) :
    FOk Tryd.prog 47 ([AVal.int IntKind.u64 0]) ([]) (AVal.int IntKind.i64 0) ([]) :=
  (evalF_ok followed Tryd.func47 (by kernel_rfl) (show evalF Tryd.prog Tryd.f47 ([AVal.int IntKind.u64 0]) ([]) ([Dec.use [] [AVal.int IntKind.u64 0] [] (AVal.int IntKind.i64 0) []]) = .ok (FRes.mk (AVal.int IntKind.i64 0) ([]) ((Owed.use (owed Tryd.prog 0) 68 [] [AVal.int IntKind.u64 0] [] [AVal.int IntKind.u64 0] [] (AVal.int IntKind.i64 0) []) :: [])) by kernel_rfl) (allP_of ⟨⟨h1, rfl, rfl, rfl⟩, trivial⟩)).move ([]) (by kernel_rfl) (by kernel_rfl) (by kernel_rfl)

def l0_T (Q : AVal → AState → Prop) : Prop := (FOk Tryd.prog 68 [AVal.int IntKind.u64 0] [] (AVal.int IntKind.i64 0) []) ∧ Q (AVal.int IntKind.i64 0) ([])
theorem l0_wp {Q : AVal → AState → Prop} (h : l0_T Q) : ∃ r σ', FOk Tryd.prog 47 ([AVal.int IntKind.u64 0]) ([]) r σ' ∧ Q r σ' :=
  ⟨_, _, l0_1 (h.1), h.2⟩


theorem is0_1 :
    FOk Tryd.prog 58 ([AVal.slc true 0 1 0 0 none, AVal.int IntKind.i64 0, AVal.int IntKind.i64 0]) ([AObj.bag 1 []]) (AVal.tuple []) ([AObj.bag 1 []]) :=
  (evalF_ok followed Tryd.func58 (by kernel_rfl) (show evalF Tryd.prog Tryd.f58 ([AVal.slc true 0 1 0 0 none, AVal.int IntKind.i64 0, AVal.int IntKind.i64 0]) ([AObj.bag 1 []]) ([Dec.unroll 1, Dec.br false]) = .ok (FRes.mk (AVal.tuple []) ([AObj.bag 1 []]) ((false = false) :: [])) by kernel_rfl) (allP_of ⟨rfl, trivial⟩)).move ([0]) (by kernel_rfl) (by kernel_rfl) (by kernel_rfl)

def is0_T (Q : AVal → AState → Prop) : Prop := Q (AVal.tuple []) ([AObj.bag 1 []])
theorem is0_wp {Q : AVal → AState → Prop} (h : is0_T Q) : ∃ r σ', FOk Tryd.prog 58 ([AVal.slc true 0 1 0 0 none, AVal.int IntKind.i64 0, AVal.int IntKind.i64 0]) ([AObj.bag 1 []]) r σ' ∧ Q r σ' :=
  ⟨_, _, is0_1, h⟩


theorem pq0_1
    (h1 : FOk Tryd.prog 58 [AVal.slc true 0 1 0 0 none, AVal.int IntKind.i64 0, AVal.int IntKind.i64 0] [AObj.bag 1 []] (AVal.tuple []) [AObj.bag 1 []]) :
    FOk Tryd.prog 46 ([AVal.slc true 0 1 0 0 none, AVal.int IntKind.i64 0, AVal.int IntKind.i64 0, AVal.int IntKind.i64 0]) ([AObj.bag 1 []]) (AVal.tuple []) ([AObj.bag 1 []]) :=
  (evalF_ok followed Tryd.func46 (by kernel_rfl) (show evalF Tryd.prog Tryd.f46 ([AVal.slc true 0 1 0 0 none, AVal.int IntKind.i64 0, AVal.int IntKind.i64 0, AVal.int IntKind.i64 0]) ([AObj.bag 1 []]) ([Dec.unroll 1, Dec.br true, Dec.use [0] [AVal.slc true 0 1 0 0 none, AVal.int IntKind.i64 0, AVal.int IntKind.i64 0] [AObj.bag 1 []] (AVal.tuple []) [AObj.bag 1 []]]) = .ok (FRes.mk (AVal.tuple []) ([AObj.bag 1 []]) ((Owed.use (owed Tryd.prog 1) 58 [0] [AVal.slc true 0 1 0 0 none, AVal.int IntKind.i64 0, AVal.int IntKind.i64 0] [AObj.bag 1 []] [AVal.slc true 0 1 0 0 none, AVal.int IntKind.i64 0, AVal.int IntKind.i64 0] [AObj.bag 1 []] (AVal.tuple []) [AObj.bag 1 []]) :: (tr 1 ++ []))) by kernel_rfl) (allP_of ⟨⟨h1, rfl, rfl, rfl⟩, (trC 1 trivial)⟩)).move ([0]) (by kernel_rfl) (by kernel_rfl) (by kernel_rfl)

def pq0_T (Q : AVal → AState → Prop) : Prop := (FOk Tryd.prog 58 [AVal.slc true 0 1 0 0 none, AVal.int IntKind.i64 0, AVal.int IntKind.i64 0] [AObj.bag 1 []] (AVal.tuple []) [AObj.bag 1 []]) ∧ Q (AVal.tuple []) ([AObj.bag 1 []])
theorem pq0_wp {Q : AVal → AState → Prop} (h : pq0_T Q) : ∃ r σ', FOk Tryd.prog 46 ([AVal.slc true 0 1 0 0 none, AVal.int IntKind.i64 0, AVal.int IntKind.i64 0, AVal.int IntKind.i64 0]) ([AObj.bag 1 []]) r σ' ∧ Q r σ' :=
  ⟨_, _, pq0_1 (h.1), h.2⟩


theorem so0_1
    (h1 : FOk Tryd.prog 46 [AVal.slc true 0 1 0 0 none, AVal.int IntKind.i64 0, AVal.int IntKind.i64 0, AVal.int IntKind.i64 0] [AObj.bag 1 []] (AVal.tuple []) [AObj.bag 1 []])
    (h2 : FOk Tryd.prog 47 [AVal.int IntKind.u64 0] [] (AVal.int IntKind.i64 0) []) :
    FOk Tryd.prog 33 ([AVal.slc true 0 1 0 0 none]) ([AObj.bag 1 []]) (AVal.tuple []) ([AObj.bag 1 []]) :=
  (evalF_ok followed Tryd.func33 (by kernel_rfl) (show evalF Tryd.prog Tryd.f33 ([AVal.slc true 0 1 0 0 none]) ([AObj.bag 1 []]) ([Dec.use [] [AVal.int IntKind.u64 0] [] (AVal.int IntKind.i64 0) [], Dec.use [0] [AVal.slc true 0 1 0 0 none, AVal.int IntKind.i64 0, AVal.int IntKind.i64 0, AVal.int IntKind.i64 0] [AObj.bag 1 []] (AVal.tuple []) [AObj.bag 1 []]]) = .ok (FRes.mk (AVal.tuple []) ([AObj.bag 1 []]) ((Owed.use (owed Tryd.prog 1) 46 [0] [AVal.slc true 0 1 0 0 none, AVal.int IntKind.i64 0, AVal.int IntKind.i64 0, AVal.int IntKind.i64 0] [AObj.bag 1 []] [AVal.slc true 0 1 0 0 none, AVal.int IntKind.i64 0, AVal.int IntKind.i64 0, AVal.int IntKind.i64 0] [AObj.bag 1 []] (AVal.tuple []) [AObj.bag 1 []]) :: ((Owed.use (owed Tryd.prog 1) 47 [] [AVal.int IntKind.u64 0] [AObj.bag 1 []] [AVal.int IntKind.u64 0] [] (AVal.int IntKind.i64 0) []) :: []))) by kernel_rfl) (allP_of ⟨⟨h1, rfl, rfl, rfl⟩, ⟨⟨h2, rfl, rfl, rfl⟩, trivial⟩⟩)).move ([0]) (by kernel_rfl) (by kernel_rfl) (by kernel_rfl)

def so0_T (Q : AVal → AState → Prop) : Prop := (FOk Tryd.prog 47 [AVal.int IntKind.u64 0] [] (AVal.int IntKind.i64 0) []) ∧ (FOk Tryd.prog 46 [AVal.slc true 0 1 0 0 none, AVal.int IntKind.i64 0, AVal.int IntKind.i64 0, AVal.int IntKind.i64 0] [AObj.bag 1 []] (AVal.tuple []) [AObj.bag 1 []]) ∧ Q (AVal.tuple []) ([AObj.bag 1 []])
theorem so0_wp {Q : AVal → AState → Prop} (h : so0_T Q) : ∃ r σ', FOk Tryd.prog 33 ([AVal.slc true 0 1 0 0 none]) ([AObj.bag 1 []]) r σ' ∧ Q r σ' :=
  ⟨_, _, so0_1 (h.2.1) (h.1), h.2.2⟩


end Go.MN
end

section
set_option linter.unusedVariables false
set_option linter.unusedSimpArgs false
set_option maxRecDepth 100000
namespace Go.MN
open Go Go.Abs Go.Proofs
theorem doO1 (s y u : ByteArray) (us : List ByteArray) (f : Bool) (ps : List (List AVal)) (hne : s ≠ w0) (ck : FOk Tryd.prog 21 [opw 7 w0 w0 u w0 w0 w0 0 0] [] (.int .i64 0) []) :
    FOk Tryd.prog 13 [.ptr 0 2 0 0, opw 7 w0 w0 u w0 w0 w0 0 0] (H6 [] [] s y [] (gms us) f ps) (rep 0 0 nilps) (H6 [] [] s y [gm u] (gms (us.erase u)) f ps) := by
  refine mq1 (id := 1) (own := [(ky s y, .ptr 3 2 0 0)]) ?_ rfl
  refine FOk.born (id := 1) (p := false) (ents := [(ky s y, .ptr 3 2 0 0)]) rfl fun bs c hb hl => ?_
  obtain ⟨b, rfl⟩ : ∃ b, bs = [b] := by
    match bs, hl with
    | [b], _ => exact ⟨b, rfl⟩
  have h : FOk Tryd.prog 13 [.ptr 0 2 0 0, opw 7 w0 w0 u w0 w0 w0 0 0] (H6n [(ky s y, .ptr 3 2 0 0)] [] (gms us) [b] c ps f) (rep 0 0 nilps) (H6n [(ky s y, .ptr 3 2 0 0)] [gm u] (adel (.str u) (gms us)) [b] c ps f) := by
    refine FOk.wp (dO_wp s y u ps (gms us) f b c ?_)
    unfold dO_T
    have hf : afind (ky w0 w0) [(ky s y, AVal.ptr 3 2 0 0)] = none := by
      show (if keq (ky w0 w0) (ky s y) = true then _ else none) = _
      rw [keq_ky, decide_eq_false (fun e => hne e.symm)]; rfl
    rw [hf]
    exact ⟨FOk.wp (given6e_wp s y [] (gms us) [b] c ps f ⟨rfl, rfl⟩), ck, rfl, offs_loop s y [gm u] (gms us) b c u ps f (kk9s us), rfl, rfl⟩
  rw [adel_gm] at h
  exact unmq1 (id := 1) (h.unborn (id := 1) rfl) rfl

theorem sort0 : FOk Tryd.prog 33 [.slc true 0 1 0 0 none] [.bag 1 []] (.tuple []) [.rows true 1 []] := by
  have l0 : FOk Tryd.prog 47 [.int .u64 0] [] (.int .i64 0) [] := FOk.wp (l0_wp ⟨FOk.wp (l64_wp ⟨rfl, rfl⟩), rfl, rfl⟩)
  have pq : FOk Tryd.prog 46 [.slc true 0 1 0 0 none, .int .i64 0, .int .i64 0, .int .i64 0] [.bag 1 []] (.tuple []) [.bag 1 []] := FOk.wp (pq0_wp ⟨FOk.wp (is0_wp ⟨rfl, rfl⟩), rfl, rfl⟩)
  have h : FOk Tryd.prog 33 [.slc true 0 1 0 0 none] [.bag 1 []] (.tuple []) [.bag 1 []] := FOk.wp (so0_wp ⟨l0, pq, rfl, rfl⟩)
  exact h.post fun F w ρ r => r.reobj (id := 0) (o := .bag 1 []) rfl rfl fun b hb => by
    obtain ⟨rs, hp, h⟩ := r.obj 0 _ b rfl hb
    obtain rfl : rs = [] := List.Perm.eq_nil hp
    exact h
theorem mem6_ok (pre post : Ents) (s c : ByteArray) (off : Ents) (us vs : List ByteArray) (f : Bool) (ps : List (List AVal)) (hk : keysOk (pre ++ post)) (hn : afind (ky s c) pre = none) (hp : vs.Perm us) (hs : (vs.map fun u => u.data.toList).Pairwise (fun x y => x ≤ y)) (hl : us.length ≤ 1000) :
    FOk Tryd.prog 16 [.ptr 0 2 0 0, .str s, .str c] (H6 pre post s c off (gms us) f ps) (.tuple [.slc us.isEmpty 6 1 0 us.length none, .int .i64 0]) (H6 pre post s c off (gms us) f ps ++ [.rows true 1 (vs.map fun u => [.str u])]) := by
  refine FOk.born (id := 4) (p := true) (ents := gms us) rfl fun bs k hb hlb => ?_
  have hlb : bs.length = us.length := by rw [hlb]; simp [gms]
  have hfind : FOk Tryd.prog 32 [.ptr 0 2 0 0, .str s, .str c] (M6 pre post s c off us bs k f ps) (.tuple [.ptr 3 2 0 0, .int .i64 0]) (M6 pre post s c off us bs k f ps) := by
    refine FOk.wp (fi6n_wp pre post s c off us bs k f ps ?_)
    unfold fi6n_T
    rw [afind_mid s c _ pre post hn]
    exact ⟨FOk.wp (given6m_wp pre post s c off us bs k f ps ⟨rfl, rfl⟩), keys_all (keys_mid hk), rfl, rfl, rfl⟩
  have hsort : FOk Tryd.prog 33 [.slc us.isEmpty 0 1 0 us.length none] [.bag 1 (us.map fun u => [.str u])] (.tuple []) [.rows true 1 (vs.map fun u => [.str u])] := by
    cases us with
    | nil =>
      obtain rfl : vs = [] := List.Perm.eq_nil hp
      exact sort0
    | cons u us => exact FOk.sortBag sort_ok (u :: us) vs hp hs (by simp) (by simp at hl ⊢; omega)
  have h := FOk.wp (me6_wp pre post s c off us vs bs k us.length us.isEmpty f ps (Q := fun r σ => r = _ ∧ σ = _) ⟨hfind, me6_loop pre post s c off us bs k f ps hb hlb hl, hsort, rfl, rfl⟩)
  exact h.unborn (id := 4) rfl

theorem ckk1 {s c u x y z : ByteArray} {f m : Int} (hx : x.size ≤ 140737488355328) (hm : may1 s c u x y z f m = true) : FOk Tryd.prog 21 [opw 1 s c u x y z f m] [] (.int .i64 0) [] := by
  have := ck1_ok s c u x y z f m hx
  rw [hm] at this; exact this
theorem ckk2 {s c u x y z : ByteArray} {f m : Int} (hx : x.size ≤ 140737488355328) (hm : may2 s c u x y z f m = true) : FOk Tryd.prog 21 [opw 2 s c u x y z f m] [] (.int .i64 0) [] := by
  have := ck2_ok s c u x y z f m hx
  rw [hm] at this; exact this
theorem ckk3 {s c u x y z : ByteArray} {f m : Int} (hx : x.size ≤ 140737488355328) (hm : may3 s c u x y z f m = true) : FOk Tryd.prog 21 [opw 3 s c u x y z f m] [] (.int .i64 0) [] := by
  have := ck3_ok s c u x y z f m hx
  rw [hm] at this; exact this
theorem ckk7 {s c u x y z : ByteArray} {f m : Int} (hx : x.size ≤ 140737488355328) (hm : may7 s c u x y z f m = true) : FOk Tryd.prog 21 [opw 7 s c u x y z f m] [] (.int .i64 0) [] := by
  have := ck7_ok s c u x y z f m hx
  rw [hm] at this; exact this
def uk (k : Nat) : ByteArray := ⟨#[117, UInt8.ofNat (97 + k)]⟩
theorem small (x : ByteArray) (h : x.size ≤ 100 := by decide) : x.size ≤ 140737488355328 := by omega
theorem ckJ (k : Nat) (hk : k < 16) : FOk Tryd.prog 21 [opw 2 vw vc (uk k) w0 w0 w0 0 0] [] (.int .i64 0) [] :=
  ckk2 (small w0) ((by decide +kernel : ∀ k : Fin 16, may2 vw vc (uk k.1) w0 w0 w0 0 0 = true) ⟨k, hk⟩)
theorem ckO (k : Nat) (hk : k < 16) : FOk Tryd.prog 21 [opw 7 w0 w0 (uk k) w0 w0 w0 0 0] [] (.int .i64 0) [] :=
  ckk7 (small w0) ((by decide +kernel : ∀ k : Fin 16, may7 w0 w0 (uk k.1) w0 w0 w0 0 0 = true) ⟨k, hk⟩)
theorem ckM : FOk Tryd.prog 21 [opw 1 vw vc w0 w0 w0 w0 0 0] [] (.int .i64 0) [] := ckk1 (small _) (by decide +kernel)
theorem ckA : FOk Tryd.prog 21 [opw 2 vw vc tann w0 w0 w0 0 0] [] (.int .i64 0) [] := ckk2 (small _) (by decide +kernel)
theorem ckF : FOk Tryd.prog 21 [opw 7 w0 w0 tann w0 w0 w0 0 0] [] (.int .i64 0) [] := ckk7 (small _) (by decide +kernel)
theorem ckP (x : ByteArray) (h : x = thi ∨ x = tho ∨ x = tno) : FOk Tryd.prog 21 [opw 3 tw tc tann x w0 w0 0 0] [] (.int .i64 0) [] := by
  rcases h with rfl | rfl | rfl <;> exact ckk3 (small _) (by decide +kernel)
end Go.MN
end

section
set_option linter.unusedVariables false
set_option linter.unusedSimpArgs false
set_option maxRecDepth 100000
namespace Go.MN
open Go Go.Abs Go.Proofs
theorem keysNil : keysOk ([] ++ []) := fun e he => by simp at he
theorem doP (pre post : Ents) (s c u x : ByteArray) (offs us : List ByteArray) (b : Bool) (ps : List (List AVal)) (ck : FOk Tryd.prog 21 [opw 3 s c u x w0 w0 0 0] [] (.int .i64 0) []) (hk : keysOk (pre ++ post)) (hn : afind (ky s c) pre = none) (h : u ∉ offs) (h2 : u ∈ us) (hp : ps.length < 1024) :
    FOk Tryd.prog 13 [.ptr 0 2 0 0, opw 3 s c u x w0 w0 0 0] (H6 pre post s c (gms offs) (gms us) b ps) (rep 0 ps.length nilps) [.rows false 2 [[.map 1, .map 2]], .mq pre [(ky s c, .ptr 3 2 0 0)] post, .mp true (gms offs), .rows false 2 [[.map 4, .slc (b && false) 6 2 0 (ps.length + 1) none]], .mp true (gms us), .dead, .rows true 2 (ps ++ [[.str u, .str x]])] := by
  have hw : FOk Tryd.prog 31 [.ptr 0 2 0 0, ky s c, .ptr 1 2 0 0, opw 3 s c u x w0 w0 0 0] (W6 pre post s c (gms offs) (gms us) b ps) (rep 0 ps.length nilps) [.rows false 2 [[.map 2, .map 3]], .rows false 2 [[.map 4, .slc (b && false) 6 2 0 (ps.length + 1) none]], .mq pre [(ky s c, .ptr 1 2 0 0)] post, .mp true (gms offs), .mp true (gms us), .dead, .rows true 2 (ps ++ [[.str u, .str x]])] := by
    have hi : IntKind.wrap .i64 (((ps.length + 1 : Nat) : Int) - 1) = (ps.length : Int) := by rw [wrapS (by omega) (by omega)]; omega
    refine FOk.wp (wP_wp pre post s c u x (gms offs) (gms us) b ps false true ?_)
    unfold wP_T
    rw [getD_gm, getD_gm, decide_eq_false h, decide_eq_true h2, hi]
    exact ⟨kk9s _, ok4 _, by rw [if_neg (by simp)]; exact as4 false, (fun h => by cases h), fun _ => ⟨kk9s _, ok4 _, by rw [if_neg (by simp)]; exact as4 true, (fun h => by cases h), fun _ => ⟨fun h => absurd (of_decide_eq_true h) (by omega), fun _ => ⟨decide_eq_true (by omega), rfl, rfl⟩⟩⟩⟩
  refine FOk.wp (dP_wp pre post s c u x (gms offs) (gms us) b ps ps.length ?_)
  unfold dP_T
  rw [afind_mid s c _ pre post hn]
  exact ⟨given6 .., ck, keys_all (keys_mid hk), rfl, hw, rfl, rfl⟩
theorem wP_off (pre post : Ents) (s c u x : ByteArray) (offs us : List ByteArray) (b : Bool) (ps : List (List AVal)) (h : u ∈ offs) : FOk Tryd.prog 31 [.ptr 0 2 0 0, ky s c, .ptr 1 2 0 0, opw 3 s c u x w0 w0 0 0] (W6 pre post s c (gms offs) (gms us) b ps) (rep 92 0 nilps) (W6 pre post s c (gms offs) (gms us) b ps) := by
  refine FOk.wp (wP_wp pre post s c u x (gms offs) (gms us) b ps true false ?_)
  unfold wP_T
  rw [getD_gm, decide_eq_true h]
  exact ⟨kk9s _, ok4 _, by rw [if_neg (by simp)]; exact as4 true, fun _ => ⟨rfl, rfl⟩, fun h => by cases h⟩
theorem pos_ok (x : ByteArray) : FOk Tryd.prog 15 [.str x] [] (opw 3 tw tc tann x w0 w0 0 0) [] := FOk.wp (pos_wp x ⟨rfl, rfl⟩)
theorem awake_ok : FOk Tryd.prog 14 [] [] (.bool true) [] := by
  refine FOk.wp (awk_wp ?_)
  unfold awk_T
  exact ⟨new_ok, doM3 [] (gms []) tw tc ckM (fun e he => by simp at he) rfl, doJ [] [] tw tc tann [] [] true [] ckA keysNil rfl (by simp) (by simp), pos_ok thi, doP [] [] tw tc tann thi [] [tann] true [] (ckP thi (.inl rfl)) keysNil rfl (by simp) (by simp) (by decide),
    pos_ok tho, doP [] [] tw tc tann tho [] [tann] false [pst thi] (ckP tho (.inr (.inl rfl))) keysNil rfl (by simp) (by simp) (by decide), doO1 tw tc tann [tann] false [pst thi, pst tho] (by decide) ckF, pos_ok tno,
    doS [] [] 3 tw tc tann tno w0 w0 0 0 (gms [tann]) (gms []) false [pst thi, pst tho] 92 0 true [] (ckP tno (.inr (.inr rfl))) keysNil rfl (by decide) (by decide) (by decide) (wP_off [] [] tw tc tann tno [tann] [] false [pst thi, pst tho] (by simp)), rfl, rfl⟩
end Go.MN
end

section
set_option linter.unusedVariables false
set_option linter.unusedSimpArgs false
set_option maxRecDepth 100000
namespace Go.MN
open Go Go.Abs Go.Proofs
theorem and_le (n m : Int) (h0 : 0 ≤ m) (hm : m ≤ 1000) : 0 ≤ bits .and .i64 n m ∧ bits .and .i64 n m ≤ m := by
  have h : bits .and .i64 n m = IntKind.wrap .i64 (((BitVec.ofInt 64 n) &&& (BitVec.ofInt 64 m)).toNat : Int) := rfl
  have e : ((BitVec.ofInt 64 n) &&& (BitVec.ofInt 64 m)).toNat ≤ m.toNat := by
    rw [BitVec.toNat_and]
    refine Nat.le_trans Nat.and_le_right ?_
    rw [BitVec.toNat_ofInt]
    have : m % (2 ^ 64 : Nat) = m := Int.emod_eq_of_lt h0 (by omega)
    rw [this]; exact Nat.le_refl _
  rw [h, wrapS (by omega) (by omega)]
  omega
theorem and15 (n : Int) : ∃ k : Nat, bits .and .i64 n 15 = (k : Int) ∧ k < 16 := by
  obtain ⟨h0, h1⟩ := and_le n 15 (by omega) (by omega)
  exact ⟨(bits .and .i64 n 15).toNat, by omega, by omega⟩
theorem u8_of {x : Int} (h0 : 0 ≤ x) (h1 : x < 256) : IntKind.wrap .u8 x = x := by
  unfold IntKind.wrap
  simp [IntKind.signed, IntKind.bits]
  omega
theorem row_uk (k : Nat) (hk : k < 16) : rowBytes [[.int .u8 117], [.int .u8 (IntKind.wrap .u8 (IntKind.wrap .i64 (97 + (k : Int))))]] = uk k := by
  rw [wrapS (by omega) (by omega), u8_of (by omega) (by omega)]
  unfold rowBytes uk
  simp only [List.map_cons, List.map_nil, List.headD_cons, AVal.toInt]
  rw [show (97 + (k : Int)).toNat = 97 + k by omega]
  rfl
theorem uk_inj {i j : Nat} (hi : i < 16) (hj : j < 16) (h : uk i = uk j) : i = j := by
  have := (by decide +kernel : ∀ i j : Fin 16, uk i.1 = uk j.1 → i.1 = j.1) ⟨i, hi⟩ ⟨j, hj⟩ h
  exact this
def thL (f : Nat → Bool) : List (List AVal) := (List.range 16).map fun k => [AVal.tt (f k)]
theorem thL_len (f : Nat → Bool) : (thL f).length = 16 := by simp [thL]
theorem thL_get (f : Nat → Bool) {k : Nat} (hk : k < 16) : (thL f).getD k [] = [AVal.tt (f k)] := by
  rw [List.getD_eq_getElem?_getD]
  unfold thL
  rw [List.getElem?_map, List.getElem?_range hk]; rfl
def upd (f : Nat → Bool) (k : Nat) (x : Bool) : Nat → Bool := fun j => if j = k then x else f j
theorem thL_set (f : Nat → Bool) {k : Nat} (hk : k < 16) (x : Bool) : (thL f).set k [AVal.tt x] = thL (upd f k x) := by
  refine List.ext_getElem? fun j => ?_
  rw [List.getElem?_set]
  unfold thL
  rw [List.length_map, List.length_range]
  by_cases hj : j < 16
  · rw [List.getElem?_map, List.getElem?_map, List.getElem?_range hj]
    by_cases e : k = j
    · subst e; simp [hk, upd]
    · have : ¬ j = k := fun h => e h.symm
      simp [e, this, upd]
  · rw [if_neg (by omega), List.getElem?_eq_none (by simp; omega), List.getElem?_eq_none (by simp; omega)]
structure Mks (us : List ByteArray) (f : Nat → Bool) : Prop where
  nd : us.Nodup
  nm : ∀ u ∈ us, ∃ k, k < 16 ∧ u = uk k
  md : ∀ k, k < 16 → f k = decide (uk k ∈ us)
theorem Mks.join {us : List ByteArray} {f : Nat → Bool} (h : Mks us f) {k : Nat} (hk : k < 16) (hn : uk k ∉ us) : Mks (us ++ [uk k]) (upd f k true) := by
  refine ⟨?_, fun u hu => ?_, fun j hj => ?_⟩
  · rw [List.nodup_append]
    exact ⟨h.nd, by simp, fun x hx y hy => by simp at hy; subst hy; exact fun e => hn (e ▸ hx)⟩
  · rcases List.mem_append.1 hu with hu | hu
    · exact h.nm u hu
    · simp at hu; exact ⟨k, hk, hu⟩
  · unfold upd
    by_cases e : j = k
    · subst e; simp
    · have : ¬ uk j = uk k := fun e2 => e (uk_inj hj hk e2)
      rw [if_neg e, h.md j hj]; simp [this]
theorem Mks.same {us : List ByteArray} {f : Nat → Bool} (h : Mks us f) {k : Nat} (hk : k < 16) (hn : uk k ∈ us) : upd f k true = f := by
  funext j
  unfold upd
  by_cases e : j = k
  · subst e; rw [if_pos rfl, h.md j hk, decide_eq_true hn]
  · rw [if_neg e]
theorem Mks.off {us : List ByteArray} {f : Nat → Bool} (h : Mks us f) {k : Nat} (hk : k < 16) : Mks (us.erase (uk k)) (upd f k false) := by
  refine ⟨h.nd.erase _, fun u hu => h.nm u (List.mem_of_mem_erase hu), fun j hj => ?_⟩
  have hm := h.nd.mem_erase_iff (a := uk j) (b := uk k)
  unfold upd
  by_cases e : j = k
  · subst e
    rw [if_pos rfl]
    exact (decide_eq_false fun hh => (hm.1 hh).1 rfl).symm
  · have hne : uk j ≠ uk k := fun e2 => e (uk_inj hj hk e2)
    rw [if_neg e, h.md j hj]
    by_cases hin : uk j ∈ us
    · rw [decide_eq_true hin, decide_eq_true (hm.2 ⟨hne, hin⟩)]
    · rw [decide_eq_false hin]; exact (decide_eq_false fun hh => hin (hm.1 hh).2).symm
abbrev nsR (ns : List Int) : List (List AVal) := ns.map fun n => [AVal.int .i64 n]
theorem nsR_get (ns : List Int) {i : Nat} (h : i < ns.length) : (nsR ns).getD i [] = [AVal.int .i64 (ns[i])] := by
  rw [List.getD_eq_getElem?_getD]
  unfold nsR
  rw [List.getElem?_map, List.getElem?_eq_getElem h]; rfl
theorem us_rounds (ub : Bool) (ns : List Int) (off : Int) : ∀ (d i : Nat) (us : List ByteArray) (f : Nat → Bool), i + d = min ns.length 40 → Mks us f → us.length ≤ i →
    ∃ us' f', Mks us' f' ∧ us'.length ≤ 40 ∧ LoopRun Tryd.prog 0 (loopNo Tryd.f7 0) (rgU ub (nsR ns) off (i : Nat)) (HU (gms us) (thL f)) (.exit 0) (rgU ub (nsR ns) off ((min ns.length 40 : Nat) : Int)) (HU (gms us') (thL f'))
  | 0, i, us, f, hi, hI, hl => by
    have hi' : i = min ns.length 40 := by omega
    refine ⟨us, f, hI, by omega, ?_⟩
    rw [← hi']
    by_cases h : i < ns.length
    · refine .done (TripN.wp (usY_wp ub (nsR ns) off (i : Nat) (gms us) (thL f) ?_)) (by simp)
      unfold usY_T
      exact ⟨decide_eq_true (by simp; omega), decide_eq_false (by omega), rfl, rfl, rfl⟩
    · refine .done (TripN.wp (usX_wp ub (nsR ns) off (i : Nat) (gms us) (thL f) ?_)) (by simp)
      unfold usX_T
      exact ⟨decide_eq_false (by simp; omega), rfl, rfl, rfl⟩
  | d + 1, i, us, f, hi, hI, hl => by
    have hin : i < ns.length := by omega
    have hi40 : i < 40 := by omega
    have w1 : IntKind.wrap .i64 ((i : Int) + 1) = ((i + 1 : Nat) : Int) := by rw [wrapS (by omega) (by omega)]; omega
    obtain ⟨k, hk, hk16⟩ := and15 ns[i]
    have hrow : (nsR ns).getD i [] = [AVal.int .i64 (ns[i])] := nsR_get ns hin
    by_cases hm : uk k ∈ us
    · obtain ⟨us', f', h1, h2, r⟩ := us_rounds ub ns off d (i + 1) us f (by omega) hI (by omega)
      refine ⟨us', f', h1, h2, .more (TripN.wp (usT_wp ub (nsR ns) off (i : Nat) (gms us) (thL f) ?_)) r⟩
      unfold usT_T
      simp only [Int.toNat_natCast, hrow, List.getD_cons_zero, AVal.toInt, hk, row_uk k hk16, w1, thL_get f hk16, hI.md k hk16, decide_eq_true hm, thL_len]
      refine ⟨decide_eq_true (by simp; omega), decide_eq_true (by omega), decide_eq_true (by simp; omega), rfl, decide_eq_true (by simp; omega), ?_, decide_eq_true (by omega), (by first | rfl | trivial), decide_eq_true (by omega), (by first | rfl | trivial), (by first | rfl | trivial), (by first | rfl | trivial), ?_⟩
      · exact doS [] [] 2 vw vc (uk k) w0 w0 w0 0 0 (gms []) (gms us) true [] 90 0 true [] (ckJ k hk16) keysNil rfl (by decide) (by decide) (by decide) (wJ_there [] [] vw vc (uk k) [] us true [] (by simp) hm)
      · show [_, AObj.rows true 1 ((thL f).set k [AVal.tt true]), _, _, _, _, _] = _
        rw [thL_set f hk16, hI.same hk16 hm]
    · obtain ⟨us', f', h1, h2, r⟩ := us_rounds ub ns off d (i + 1) (us ++ [uk k]) (upd f k true) (by omega) (hI.join hk16 hm) (by simp; omega)
      refine ⟨us', f', h1, h2, .more (TripN.wp (usN_wp ub (nsR ns) off (i : Nat) (gms us) (gms (us ++ [uk k])) (thL f) ?_)) r⟩
      unfold usN_T
      simp only [Int.toNat_natCast, hrow, List.getD_cons_zero, AVal.toInt, hk, row_uk k hk16, w1, thL_get f hk16, hI.md k hk16, decide_eq_false hm, thL_len]
      refine ⟨decide_eq_true (by simp; omega), decide_eq_true (by omega), decide_eq_true (by simp; omega), rfl, decide_eq_true (by simp; omega), ?_, decide_eq_true (by omega), (by first | rfl | trivial), decide_eq_true (by omega), (by first | rfl | trivial), (by first | rfl | trivial), (by first | rfl | trivial), ?_⟩
      · exact doJ [] [] vw vc (uk k) [] us true [] (ckJ k hk16) keysNil rfl (by simp) hm
      · show [_, AObj.rows true 1 ((thL f).set k [AVal.tt true]), _, _, _, _, _] = _
        rw [thL_set f hk16]
end Go.MN
end

section
set_option linter.unusedVariables false
set_option linter.unusedSimpArgs false
set_option maxRecDepth 100000
namespace Go.MN
open Go Go.Abs Go.Proofs
def there (f : Nat → Bool) (n : Nat) : List Nat := (List.range n).filter f
def vsL (f : Nat → Bool) : List (List AVal) := ((there f 16).map uk).map fun u => [AVal.str u]
theorem there_succ (f : Nat → Bool) (n : Nat) : there f (n + 1) = if f n = true then there f n ++ [n] else there f n := by
  unfold there
  rw [List.range_succ, List.filter_append]
  cases h : f n <;> simp [h]
theorem there_split (f : Nat → Bool) (k : Nat) (hf : f k = true) : ∀ m, ∃ t, there f (k + 1 + m) = there f k ++ k :: t
  | 0 => ⟨[], by rw [Nat.add_zero, there_succ, if_pos hf]⟩
  | m + 1 => by
    obtain ⟨t, ht⟩ := there_split f k hf m
    rw [show k + 1 + (m + 1) = (k + 1 + m) + 1 by omega, there_succ, ht]
    split
    · exact ⟨t ++ [k + 1 + m], by simp⟩
    · exact ⟨t, rfl⟩
theorem there_get (f : Nat → Bool) {k : Nat} (hk : k < 16) (hf : f k = true) : (there f 16)[(there f k).length]? = some k := by
  obtain ⟨t, ht⟩ := there_split f k hf (15 - k)
  rw [show k + 1 + (15 - k) = 16 by omega] at ht
  rw [ht, List.getElem?_append_right (Nat.le_refl _)]
  simp
theorem vsL_get (f : Nat → Bool) {k : Nat} (hk : k < 16) (hf : f k = true) : (vsL f).getD (there f k).length [] = [AVal.str (uk k)] := by
  rw [List.getD_eq_getElem?_getD]
  unfold vsL
  rw [List.getElem?_map, List.getElem?_map, there_get f hk hf]; rfl
theorem there_lt (f : Nat → Bool) {k : Nat} (hk : k < 16) (hf : f k = true) : (there f k).length < (there f 16).length := (List.getElem?_eq_some_iff.1 (there_get f hk hf)).1
theorem uk_list (k : Nat) : (uk k).toList = [(uk k).get! 0, (uk k).get! 1] := by rw [toList_lB]; rfl
theorem uk_rounds (f : Nat → Bool) (nb : Bool) (ln : Nat) (hln : ln = (there f 16).length) : ∀ (d k : Nat), k + d = 16 →
    LoopRun Tryd.prog 0 (loopNo Tryd.f7 1) (rgL nb 0 ((there f k).length : Nat) (k : Nat) ln) [.rows true 1 (thL f), .rows true 1 (vsL f)] (.exit 2) (rgL nb 0 ((there f 16).length : Nat) 16 ln) [.rows true 1 (thL f), .rows true 1 (vsL f)]
  | 0, k, hk => by
    obtain rfl : k = 16 := by omega
    refine .done (TripN.wp (ukB_wp nb ((there f 16).length : Nat) 16 (thL f) (vsL f) ln ?_)) (by simp)
    unfold ukB_T
    exact ⟨fun h => absurd (of_decide_eq_true h) (by omega), fun _ => ⟨rfl, rfl, rfl⟩⟩
  | d + 1, k, hk => by
    have hk16 : k < 16 := by omega
    have w1 : IntKind.wrap .i64 ((k : Int) + 1) = ((k + 1 : Nat) : Int) := by rw [wrapS (by omega) (by omega)]; omega
    have r := uk_rounds f nb ln hln d (k + 1) (by omega)
    have hvl : (vsL f).length = (there f 16).length := by simp [vsL]
    have key : TripN Tryd.prog 0 (loopNo Tryd.f7 1) (rgL nb 0 ((there f k).length : Nat) (k : Nat) ln) [.rows true 1 (thL f), .rows true 1 (vsL f)] .normal (rgL nb 0 ((there f (k + 1)).length : Nat) ((k + 1 : Nat) : Int) ln) [.rows true 1 (thL f), .rows true 1 (vsL f)] := by
      refine TripN.wp (ukB_wp nb ((there f k).length : Nat) (k : Nat) (thL f) (vsL f) ln ?_)
      unfold ukB_T
      refine ⟨fun _ => ?_, fun h => absurd (of_decide_eq_false h) (by omega)⟩
      rw [w1]
      simp only [Int.toNat_natCast, thL_get f hk16, List.getD_cons_zero, AVal.toBool, thL_len]
      refine ⟨decide_eq_true (by omega), (by first | rfl | trivial), decide_eq_true (by omega), fun hf => ?_, fun hf => ?_⟩
      · have hf : f k = false := by simpa using hf
        rw [there_succ, if_neg (by simp [hf])]
        refine ⟨?_, ?_, ?_⟩ <;> first | rfl | trivial
      · have hf : f k = true := by simpa using hf
        have hlt := there_lt f hk16 hf
        refine ⟨fun h => absurd (of_decide_eq_true h) (by omega), fun _ => ?_⟩
        have w2 : IntKind.wrap .i64 (((there f k).length : Int) + 1) = ((there f (k + 1)).length : Int) := by
          have : (there f 16).length ≤ 16 := by unfold there; exact Nat.le_trans (List.length_filter_le _ _) (by simp)
          rw [wrapS (by omega) (by omega), there_succ, if_pos hf]; simp
        rw [vsL_get f hk16 hf, w2, row_uk k hk16, hvl]
        have hb : ((uk k).toList == [(uk k).get! 0, (uk k).get! 1]) = true := by rw [uk_list]; simp
        refine ⟨decide_eq_true (by omega), rfl, decide_eq_true (by omega), fun h => ?_, fun _ => ⟨by first | rfl | trivial, by first | rfl | trivial, by first | rfl | trivial⟩⟩
        exfalso
        have h : (!((uk k).toList == [(uk k).get! 0, (uk k).get! 1])) = true := h
        rw [hb] at h; cases h
    exact .more key r
theorem vs_perm {us : List ByteArray} {f : Nat → Bool} (h : Mks us f) : ((there f 16).map uk).Perm us := by
  have hnd : ((there f 16).map uk).Nodup := by
    have h0 : (there f 16).Nodup := List.Nodup.sublist List.filter_sublist List.nodup_range
    have hlt : ∀ x ∈ there f 16, x < 16 := fun x hx => by simpa using (List.mem_filter.1 hx).1
    have : ∀ l : List Nat, l.Nodup → (∀ x ∈ l, x < 16) → (l.map uk).Nodup := by
      intro l
      induction l with
      | nil => intro _ _; exact List.nodup_nil
      | cons a l ih =>
        intro h1 h2
        rw [List.nodup_cons] at h1
        rw [List.map_cons, List.nodup_cons]
        refine ⟨fun hm => ?_, ih h1.2 fun x hx => h2 x (by simp [hx])⟩
        obtain ⟨b, hb, e⟩ := List.mem_map.1 hm
        have := uk_inj (h2 b (by simp [hb])) (h2 a (by simp)) e
        exact h1.1 (this ▸ hb)
    exact this _ h0 hlt
  refine (List.perm_ext_iff_of_nodup hnd h.nd).2 fun u => ?_
  rw [List.mem_map]
  constructor
  · rintro ⟨k, hk, rfl⟩
    obtain ⟨h1, h2⟩ := List.mem_filter.1 hk
    have hk16 : k < 16 := by simpa using h1
    rw [h.md k hk16] at h2
    simpa using h2
  · intro hu
    obtain ⟨k, hk, rfl⟩ := h.nm u hu
    refine ⟨k, List.mem_filter.2 ⟨by simpa using hk, ?_⟩, rfl⟩
    rw [h.md k hk]; simpa using hu
theorem vs_sorted (f : Nat → Bool) : (((there f 16).map uk).map fun u => u.data.toList).Pairwise (fun x y => x ≤ y) := by
  rw [List.map_map]
  have h0 : ((List.range 16).map ((fun u : ByteArray => u.data.toList) ∘ uk)).Pairwise (fun x y => x ≤ y) := by decide +kernel
  exact h0.sublist (List.Sublist.map _ List.filter_sublist)
theorem users_law (ub : Bool) (ns : List Int) (off : Int) : FOk Tryd.prog 7 [.fsl ub 1 (nsR ns) none, .int .i64 off] [] (.bool true) [] := by
  obtain ⟨us, f, hI, hl, r⟩ := us_rounds ub ns off (min ns.length 40) 0 [] (fun _ => false) (by omega) ⟨List.nodup_nil, by simp, fun k hk => by simp⟩ (Nat.zero_le _)
  obtain ⟨k, hk, hk16⟩ := and15 off
  have hI2 := hI.off hk16
  have hln : (us.erase (uk k)).length = (there (upd f k false) 16).length := by have := (vs_perm hI2).length_eq; simpa using this.symm
  have hle : (us.erase (uk k)).length ≤ 40 := Nat.le_trans (List.erase_sublist).length_le hl
  have r2 := uk_rounds (upd f k false) (us.erase (uk k)).isEmpty (us.erase (uk k)).length hln 16 0 rfl
  refine FOk.wp (usr_wp ub (nsR ns) off ((min ns.length 40 : Nat) : Int) (gms us) (gms (us.erase (uk k))) (uk k) (thL f) (thL (upd f k false)) (vsL (upd f k false)) (us.erase (uk k)).isEmpty (us.erase (uk k)).length ((there (upd f k false) 16).length : Nat) ?_)
  unfold usr_T
  rw [hk, row_uk k hk16, Int.toNat_natCast, thL_len, thL_get f hk16]
  have hset : (thL f).set k (setCells [AVal.tt (f k)] 0 [AVal.tt false]) = thL (upd f k false) := by
    show (thL f).set k [AVal.tt false] = _
    exact thL_set f hk16 false
  rw [hset]
  refine ⟨new_ok, doM3 [] (gms []) vw vc ckM (fun e he => by simp at he) rfl, r.trip, decide_eq_true (by omega), decide_eq_true (by omega), doO1 vw vc (uk k) us true [] (by decide) (ckO k hk16), ?_, r2.trip, ?_, awake_ok, rfl, rfl⟩
  · exact mem6_ok [] [] vw vc [gm (uk k)] (us.erase (uk k)) ((there (upd f k false) 16).map uk) true [] keysNil rfl (vs_perm hI2) (vs_sorted _) (by omega)
  · rw [hln]; simp
end Go.MN
end

section
set_option linter.unusedVariables false
set_option linter.unusedSimpArgs false
set_option maxRecDepth 100000
namespace Go.MN
open Go Go.Abs Go.Proofs
theorem ints_rows : ∀ (rows : List (List AVal)), (∀ row ∈ rows, okKs [.int .i64] row) → ∃ ns : List Int, rows = nsR ns
  | [], _ => ⟨[], rfl⟩
  | row :: rows, h => by
    obtain ⟨ns, rfl⟩ := ints_rows rows fun r hr => h r (by simp [hr])
    have h1 := h row (by simp)
    simp only [okKs, okK] at h1
    obtain ⟨v, us, rfl, ⟨n, rfl, _⟩, rfl⟩ := h1
    exact ⟨n :: ns, rfl⟩
theorem users_row (xs : List AVal) (h : okArgs Tryd.prog Tryd.f7.params.toList [[.sl 8 [.int .i64]], [.int .i64]] xs) : ∃ σ', FOk Tryd.prog 7 xs [] (.bool true) σ' := by
  obtain ⟨a, bs, rfl, h1, a2, bs2, rfl, h2, h3⟩ := h
  cases h3
  unfold okArg at h1 h2
  rw [if_neg (by rw [show isAggT Tryd.prog 37 = false from by kernel_rfl]; simp)] at h1
  rw [if_neg (by rw [show isAggT Tryd.prog 3 = false from by kernel_rfl]; simp)] at h2
  simp only [okKs, okK] at h1 h2
  obtain ⟨v, us, e, ⟨ub, rows, rfl, _, _, _, hr⟩, rfl⟩ := h1
  cases e
  obtain ⟨v, us, e, ⟨off, rfl, _⟩, rfl⟩ := h2
  cases e
  obtain ⟨ns, rfl⟩ := ints_rows rows hr
  exact ⟨_, users_law ub ns off⟩
end Go.MN
end

import Derived.Test.YtjkmndfipanalaaL12g2
section
set_option linter.unusedVariables false
set_option maxRecDepth 100000
namespace Go.L12
open Go Go.Abs Go.Proofs
theorem pMN_1 (m0 m1 m2 m3 m4 m5 m6 m8 : Int) (m9 : Bool) (m10 : ByteArray) (nb : Bool) (rs : List (List AVal)) (k k2 : Nat) (bs bs2 : List (List AVal))
    (h1 : TripN Try.prog 4 (Code.loop (loopNo Try.f64 1)) (mkR 148 [(0, AVal.ptr 0 2 0 0), (11, AVal.ptr 3 11 0 7), (15, AVal.slc false 1 1 0 11 none), (16, AVal.int IntKind.i64 11), (17, AVal.int IntKind.i64 9), (85, AVal.int IntKind.i64 (↑(List.length rs) : Int)), (86, AVal.int IntKind.i64 0)]) [AObj.rows false 2 [[AVal.ptr 0 2 0 0, AVal.slc false 4 1 0 (k + List.length (nRows (↑(List.length rs) : Int))) none]], AObj.rows false 1 (flM 3), AObj.dead, AObj.rows true 11 [(rM m0 m1 m2 m3 m4 m5 m6 (AVal.fsl nb 2 rs none) m8 m9 m10)], AObj.trows 5 true 1 (bs ++ nRows (↑(List.length rs) : Int))] (AExit.exit 3) (mkR 148 [(0, AVal.ptr 0 2 0 0), (11, AVal.ptr 3 11 0 7), (15, AVal.slc false 1 1 0 11 none), (16, AVal.int IntKind.i64 11), (17, AVal.int IntKind.i64 9), (85, AVal.int IntKind.i64 (↑(List.length rs) : Int)), (86, AVal.int IntKind.i64 (↑(List.length rs) : Int))]) [AObj.rows false 2 [[AVal.ptr 0 2 0 0, AVal.slc false 4 1 0 k2 none]], AObj.rows false 1 (flM 3), AObj.dead, AObj.rows true 11 [(rM m0 m1 m2 m3 m4 m5 m6 (AVal.fsl nb 2 rs none) m8 m9 m10)], AObj.trows 5 true 1 bs2])
    (h2 : nOk (↑(List.length rs) : Int) = true)
    (h3 : k = List.length bs)
    (h4 : List.length bs ≤ 70368744177664)
    (h5 : decide ((↑(List.length rs) : Int) ≤ 16) = true) :
    TripN Try.prog 4 (loopNo Try.f64 0) (rgpM 9) (hppM (rM m0 m1 m2 m3 m4 m5 m6 (AVal.fsl nb 2 rs none) m8 m9 m10) k bs) (AExit.normal) (mkR 148 [(0, AVal.ptr 0 2 0 0), (15, AVal.slc false 1 1 0 11 none), (16, AVal.int IntKind.i64 11), (17, AVal.int IntKind.i64 10)]) ([AObj.rows false 2 [[AVal.ptr 0 2 0 0, AVal.slc false 4 1 0 k2 none]], AObj.rows false 1 (flM 3), AObj.dead, AObj.rows true 11 [(rM m0 m1 m2 m3 m4 m5 m6 (AVal.fsl nb 2 rs none) m8 m9 m10)], AObj.trows 5 true 1 bs2]) :=
  evalT (st := St.mk (rgpM 9) (hppM (rM m0 m1 m2 m3 m4 m5 m6 (AVal.fsl nb 2 rs none) m8 m9 m10) k bs) ([Dec.br true, Dec.use [] [AVal.bool (decide ((↑(List.length rs) : Int) ≤ 16))] [] (AVal.tuple []) [], Dec.use [0, 4] [AVal.ptr 0 2 0 0, AVal.int IntKind.i64 (↑(List.length rs) : Int)] [AObj.rows false 2 [[AVal.ptr 0 2 0 0, AVal.slc false 1 1 0 k none]], AObj.trows 5 true 1 bs] (AVal.tuple []) [AObj.rows false 2 [[AVal.ptr 0 2 0 0, AVal.slc false 2 1 0 (k + List.length (nRows (↑(List.length rs) : Int))) none]], AObj.dead, AObj.trows 5 true 1 (bs ++ nRows (↑(List.length rs) : Int))], Dec.compact (keepM 148 [0, 11, 15, 16, 17, 85, 86]) [0, 1, 2, 3, 5], Dec.loop (AExit.exit 3) (rgpMr 9 (↑(List.length rs) : Int) (↑(List.length rs) : Int)) (hppM (rM m0 m1 m2 m3 m4 m5 m6 (AVal.fsl nb 2 rs none) m8 m9 m10) k2 bs2)]) []) (st' := St.mk (mkR 148 [(0, AVal.ptr 0 2 0 0), (11, AVal.ptr 3 11 0 7), (15, AVal.slc false 1 1 0 11 none), (16, AVal.int IntKind.i64 11), (17, AVal.int IntKind.i64 10), (85, AVal.int IntKind.i64 (↑(List.length rs) : Int)), (86, AVal.int IntKind.i64 (↑(List.length rs) : Int)), (147, AVal.int IntKind.i64 10)]) ([AObj.rows false 2 [[AVal.ptr 0 2 0 0, AVal.slc false 4 1 0 k2 none]], AObj.rows false 1 (flM 3), AObj.dead, AObj.rows true 11 [(rM m0 m1 m2 m3 m4 m5 m6 (AVal.fsl nb 2 rs none) m8 m9 m10)], AObj.trows 5 true 1 bs2]) ([]) ((Owed.loop (owed Try.prog 4) (loopNo Try.f64 1) (mkR 148 [(0, AVal.ptr 0 2 0 0), (11, AVal.ptr 3 11 0 7), (15, AVal.slc false 1 1 0 11 none), (16, AVal.int IntKind.i64 11), (17, AVal.int IntKind.i64 9), (85, AVal.int IntKind.i64 (↑(List.length rs) : Int)), (86, AVal.int IntKind.i64 0)]) [AObj.rows false 2 [[AVal.ptr 0 2 0 0, AVal.slc false 4 1 0 (k + List.length (nRows (↑(List.length rs) : Int))) none]], AObj.rows false 1 (flM 3), AObj.dead, AObj.rows true 11 [(rM m0 m1 m2 m3 m4 m5 m6 (AVal.fsl nb 2 rs none) m8 m9 m10)], AObj.trows 5 true 1 (bs ++ nRows (↑(List.length rs) : Int))] (AExit.exit 3) (mkR 148 [(0, AVal.ptr 0 2 0 0), (11, AVal.ptr 3 11 0 7), (15, AVal.slc false 1 1 0 11 none), (16, AVal.int IntKind.i64 11), (17, AVal.int IntKind.i64 9), (85, AVal.int IntKind.i64 (↑(List.length rs) : Int)), (86, AVal.int IntKind.i64 (↑(List.length rs) : Int))]) [AObj.rows false 2 [[AVal.ptr 0 2 0 0, AVal.slc false 4 1 0 k2 none]], AObj.rows false 1 (flM 3), AObj.dead, AObj.rows true 11 [(rM m0 m1 m2 m3 m4 m5 m6 (AVal.fsl nb 2 rs none) m8 m9 m10)], AObj.trows 5 true 1 bs2]) :: (tr 3 ++ ((Owed.use (owed Try.prog 4) 68 [0, 4] [AVal.ptr 0 2 0 0, AVal.int IntKind.i64 (↑(List.length rs) : Int)] [AObj.rows false 2 [[AVal.ptr 0 2 0 0, AVal.slc false 4 1 0 k none]], AObj.rows false 1 (flM 3), AObj.dead, AObj.rows true 11 [(rM m0 m1 m2 m3 m4 m5 m6 (AVal.fsl nb 2 rs none) m8 m9 m10)], AObj.trows 5 true 1 bs] [AVal.ptr 0 2 0 0, AVal.int IntKind.i64 (↑(List.length rs) : Int)] [AObj.rows false 2 [[AVal.ptr 0 2 0 0, AVal.slc false 1 1 0 k none]], AObj.trows 5 true 1 bs] (AVal.tuple []) [AObj.rows false 2 [[AVal.ptr 0 2 0 0, AVal.slc false 2 1 0 (k + List.length (nRows (↑(List.length rs) : Int))) none]], AObj.dead, AObj.trows 5 true 1 (bs ++ nRows (↑(List.length rs) : Int))]) :: (tr 3 ++ ((Owed.use (owed Try.prog 4) 58 [] [AVal.bool (decide ((↑(List.length rs) : Int) ≤ 16))] [AObj.rows false 2 [[AVal.ptr 0 2 0 0, AVal.slc false 4 1 0 k none]], AObj.rows false 1 (flM 3), AObj.dead, AObj.rows true 11 [(rM m0 m1 m2 m3 m4 m5 m6 (AVal.fsl nb 2 rs none) m8 m9 m10)], AObj.trows 5 true 1 bs] [AVal.bool (decide ((↑(List.length rs) : Int) ≤ 16))] [] (AVal.tuple []) []) :: (tr 7 ++ []))))))) followed (by kernel_rfl) (allP_of ⟨h1, (trC 3 ⟨⟨(@Go.L12.num_ok ((↑(List.length rs) : Int)) (bs) (k) h2 h3 h4), rfl, rfl, rfl⟩, (trC 3 ⟨⟨(@Go.L12.right_ok (decide ((↑(List.length rs) : Int) ≤ 16)) h5), rfl, rfl, rfl⟩, (trC 7 trivial)⟩)⟩)⟩) (keepM 148 [0, 15, 16, 17]) ([0, 1, 2, 3, 4]) (by kernel_rfl) (by kernel_rfl) (by kernel_rfl)

theorem pMN_2 (m0 m1 m2 m3 m4 m5 m6 m8 : Int) (m9 : Bool) (m10 : ByteArray) (nb : Bool) (rs : List (List AVal)) (k k2 : Nat) (bs bs2 : List (List AVal))
    (h1 : nOk (↑(List.length rs) : Int) = false)
    (h2 : (↑(List.length rs) : Int) < 9223372036854775808)
    (h3 : decide ((↑(List.length rs) : Int) ≤ 16) = true) :
    TripN Try.prog 4 (loopNo Try.f64 0) (rgpM 9) (hppM (rM m0 m1 m2 m3 m4 m5 m6 (AVal.fsl nb 2 rs none) m8 m9 m10) k bs) (AExit.pan 117) (mkR 148 [(0, AVal.ptr 0 2 0 0), (15, AVal.slc false 1 1 0 11 none), (16, AVal.int IntKind.i64 11), (17, AVal.int IntKind.i64 9)]) ([AObj.dead, AObj.rows false 1 (flM 3), AObj.dead, AObj.rows true 11 [(rM m0 m1 m2 m3 m4 m5 m6 (AVal.fsl nb 2 rs none) m8 m9 m10)]]) :=
  evalT (st := St.mk (rgpM 9) (hppM (rM m0 m1 m2 m3 m4 m5 m6 (AVal.fsl nb 2 rs none) m8 m9 m10) k bs) ([Dec.br true, Dec.use [] [AVal.bool (decide ((↑(List.length rs) : Int) ≤ 16))] [] (AVal.tuple []) [], Dec.use [0, 4] [AVal.ptr 0 2 0 0, AVal.int IntKind.i64 (↑(List.length rs) : Int)] [AObj.rows false 2 [[AVal.ptr 0 2 0 0, AVal.slc false 1 1 0 k none]], AObj.trows 5 true 1 bs] (AVal.pan 117) [AObj.dead, AObj.dead]]) []) (st' := St.mk (mkR 148 [(0, AVal.ptr 0 2 0 0), (5, AVal.iface 111 (AVal.ptr 3 11 0 7)), (11, AVal.ptr 3 11 0 7), (15, AVal.slc false 1 1 0 11 none), (16, AVal.int IntKind.i64 11), (17, AVal.int IntKind.i64 9), (18, AVal.tt true), (19, AVal.ptr 1 1 9 0), (20, AVal.iface 111 (AVal.ptr 3 11 0 7)), (21, AVal.iface 111 (AVal.ptr 3 11 0 7)), (22, AVal.tuple [AVal.nilp, AVal.tt false]), (23, AVal.tt false), (24, AVal.nilp), (30, AVal.tuple [AVal.nilp, AVal.tt false]), (31, AVal.tt false), (32, AVal.nilp), (38, AVal.tuple [AVal.nilp, AVal.tt false]), (39, AVal.tt false), (40, AVal.nilp), (47, AVal.tuple [AVal.nilp, AVal.tt false]), (48, AVal.tt false), (49, AVal.nilp), (67, AVal.tuple [AVal.ptr 3 11 0 7, AVal.tt true]), (68, AVal.tt true), (69, AVal.ptr 3 11 0 7), (70, AVal.ptr 3 11 0 7), (71, AVal.ptr 3 11 0 7), (72, AVal.fsl nb 2 rs none), (73, AVal.int IntKind.i64 (↑(List.length rs) : Int)), (74, AVal.bool (decide ((↑(List.length rs) : Int) ≤ 16))), (75, AVal.tuple []), (76, AVal.ptr 0 2 0 0), (77, AVal.ptr 3 11 0 7), (78, AVal.ptr 3 11 0 7), (79, AVal.fsl nb 2 rs none), (80, AVal.int IntKind.i64 (↑(List.length rs) : Int))]) ([AObj.dead, AObj.rows false 1 (flM 3), AObj.dead, AObj.rows true 11 [(rM m0 m1 m2 m3 m4 m5 m6 (AVal.fsl nb 2 rs none) m8 m9 m10)], AObj.dead]) ([]) ((Owed.use (owed Try.prog 4) 68 [0, 4] [AVal.ptr 0 2 0 0, AVal.int IntKind.i64 (↑(List.length rs) : Int)] [AObj.rows false 2 [[AVal.ptr 0 2 0 0, AVal.slc false 4 1 0 k none]], AObj.rows false 1 (flM 3), AObj.dead, AObj.rows true 11 [(rM m0 m1 m2 m3 m4 m5 m6 (AVal.fsl nb 2 rs none) m8 m9 m10)], AObj.trows 5 true 1 bs] [AVal.ptr 0 2 0 0, AVal.int IntKind.i64 (↑(List.length rs) : Int)] [AObj.rows false 2 [[AVal.ptr 0 2 0 0, AVal.slc false 1 1 0 k none]], AObj.trows 5 true 1 bs] (AVal.pan 117) [AObj.dead, AObj.dead]) :: (tr 3 ++ ((Owed.use (owed Try.prog 4) 58 [] [AVal.bool (decide ((↑(List.length rs) : Int) ≤ 16))] [AObj.rows false 2 [[AVal.ptr 0 2 0 0, AVal.slc false 4 1 0 k none]], AObj.rows false 1 (flM 3), AObj.dead, AObj.rows true 11 [(rM m0 m1 m2 m3 m4 m5 m6 (AVal.fsl nb 2 rs none) m8 m9 m10)], AObj.trows 5 true 1 bs] [AVal.bool (decide ((↑(List.length rs) : Int) ≤ 16))] [] (AVal.tuple []) []) :: (tr 7 ++ []))))) followed (by kernel_rfl) (allP_of ⟨⟨(@Go.L12.num_no ((↑(List.length rs) : Int)) (bs) (k) h1 h2), rfl, rfl, rfl⟩, (trC 3 ⟨⟨(@Go.L12.right_ok (decide ((↑(List.length rs) : Int) ≤ 16)) h3), rfl, rfl, rfl⟩, (trC 7 trivial)⟩)⟩) (keepM 148 [0, 15, 16, 17]) ([0, 1, 2, 3]) (by kernel_rfl) (by kernel_rfl) (by kernel_rfl)

theorem pMN_3 (m0 m1 m2 m3 m4 m5 m6 m8 : Int) (m9 : Bool) (m10 : ByteArray) (nb : Bool) (rs : List (List AVal)) (k k2 : Nat) (bs bs2 : List (List AVal))
    (h1 : decide ((↑(List.length rs) : Int) ≤ 16) = false) :
    TripN Try.prog 4 (loopNo Try.f64 0) (rgpM 9) (hppM (rM m0 m1 m2 m3 m4 m5 m6 (AVal.fsl nb 2 rs none) m8 m9 m10) k bs) (AExit.pan 117) (mkR 148 [(0, AVal.ptr 0 2 0 0), (15, AVal.slc false 1 1 0 11 none), (16, AVal.int IntKind.i64 11), (17, AVal.int IntKind.i64 9)]) ([AObj.rows false 2 [[AVal.ptr 0 2 0 0, AVal.slc false 4 1 0 k none]], AObj.rows false 1 (flM 3), AObj.dead, AObj.rows true 11 [(rM m0 m1 m2 m3 m4 m5 m6 (AVal.fsl nb 2 rs none) m8 m9 m10)], AObj.trows 5 true 1 bs]) :=
  evalT (st := St.mk (rgpM 9) (hppM (rM m0 m1 m2 m3 m4 m5 m6 (AVal.fsl nb 2 rs none) m8 m9 m10) k bs) ([Dec.br true, Dec.use [] [AVal.bool (decide ((↑(List.length rs) : Int) ≤ 16))] [] (AVal.pan 117) []]) []) (st' := St.mk (mkR 148 [(0, AVal.ptr 0 2 0 0), (5, AVal.iface 111 (AVal.ptr 3 11 0 7)), (11, AVal.ptr 3 11 0 7), (15, AVal.slc false 1 1 0 11 none), (16, AVal.int IntKind.i64 11), (17, AVal.int IntKind.i64 9), (18, AVal.tt true), (19, AVal.ptr 1 1 9 0), (20, AVal.iface 111 (AVal.ptr 3 11 0 7)), (21, AVal.iface 111 (AVal.ptr 3 11 0 7)), (22, AVal.tuple [AVal.nilp, AVal.tt false]), (23, AVal.tt false), (24, AVal.nilp), (30, AVal.tuple [AVal.nilp, AVal.tt false]), (31, AVal.tt false), (32, AVal.nilp), (38, AVal.tuple [AVal.nilp, AVal.tt false]), (39, AVal.tt false), (40, AVal.nilp), (47, AVal.tuple [AVal.nilp, AVal.tt false]), (48, AVal.tt false), (49, AVal.nilp), (67, AVal.tuple [AVal.ptr 3 11 0 7, AVal.tt true]), (68, AVal.tt true), (69, AVal.ptr 3 11 0 7), (70, AVal.ptr 3 11 0 7), (71, AVal.ptr 3 11 0 7), (72, AVal.fsl nb 2 rs none), (73, AVal.int IntKind.i64 (↑(List.length rs) : Int)), (74, AVal.bool (decide ((↑(List.length rs) : Int) ≤ 16)))]) ([AObj.rows false 2 [[AVal.ptr 0 2 0 0, AVal.slc false 4 1 0 k none]], AObj.rows false 1 (flM 3), AObj.dead, AObj.rows true 11 [(rM m0 m1 m2 m3 m4 m5 m6 (AVal.fsl nb 2 rs none) m8 m9 m10)], AObj.trows 5 true 1 bs]) ([]) ((Owed.use (owed Try.prog 4) 58 [] [AVal.bool (decide ((↑(List.length rs) : Int) ≤ 16))] [AObj.rows false 2 [[AVal.ptr 0 2 0 0, AVal.slc false 4 1 0 k none]], AObj.rows false 1 (flM 3), AObj.dead, AObj.rows true 11 [(rM m0 m1 m2 m3 m4 m5 m6 (AVal.fsl nb 2 rs none) m8 m9 m10)], AObj.trows 5 true 1 bs] [AVal.bool (decide ((↑(List.length rs) : Int) ≤ 16))] [] (AVal.pan 117) []) :: (tr 7 ++ []))) followed (by kernel_rfl) (allP_of ⟨⟨(@Go.L12.right_no (decide ((↑(List.length rs) : Int) ≤ 16)) h1), rfl, rfl, rfl⟩, (trC 7 trivial)⟩) (keepM 148 [0, 15, 16, 17]) ([0, 1, 2, 3, 4]) (by kernel_rfl) (by kernel_rfl) (by kernel_rfl)

def pMN_T (m0 m1 m2 m3 m4 m5 m6 m8 : Int) (m9 : Bool) (m10 : ByteArray) (nb : Bool) (rs : List (List AVal)) (k k2 : Nat) (bs bs2 : List (List AVal)) (Q : AExit → Regs → AState → Prop) : Prop := ((((decide ((↑(List.length rs) : Int) ≤ 16) = true)) → ((((nOk (↑(List.length rs) : Int) = true) ∧ (k = List.length bs) ∧ (List.length bs ≤ 70368744177664)) → (TripN Try.prog 4 (Code.loop (loopNo Try.f64 1)) (mkR 148 [(0, AVal.ptr 0 2 0 0), (11, AVal.ptr 3 11 0 7), (15, AVal.slc false 1 1 0 11 none), (16, AVal.int IntKind.i64 11), (17, AVal.int IntKind.i64 9), (85, AVal.int IntKind.i64 (↑(List.length rs) : Int)), (86, AVal.int IntKind.i64 0)]) [AObj.rows false 2 [[AVal.ptr 0 2 0 0, AVal.slc false 4 1 0 (k + List.length (nRows (↑(List.length rs) : Int))) none]], AObj.rows false 1 (flM 3), AObj.dead, AObj.rows true 11 [(rM m0 m1 m2 m3 m4 m5 m6 (AVal.fsl nb 2 rs none) m8 m9 m10)], AObj.trows 5 true 1 (bs ++ nRows (↑(List.length rs) : Int))] (AExit.exit 3) (mkR 148 [(0, AVal.ptr 0 2 0 0), (11, AVal.ptr 3 11 0 7), (15, AVal.slc false 1 1 0 11 none), (16, AVal.int IntKind.i64 11), (17, AVal.int IntKind.i64 9), (85, AVal.int IntKind.i64 (↑(List.length rs) : Int)), (86, AVal.int IntKind.i64 (↑(List.length rs) : Int))]) [AObj.rows false 2 [[AVal.ptr 0 2 0 0, AVal.slc false 4 1 0 k2 none]], AObj.rows false 1 (flM 3), AObj.dead, AObj.rows true 11 [(rM m0 m1 m2 m3 m4 m5 m6 (AVal.fsl nb 2 rs none) m8 m9 m10)], AObj.trows 5 true 1 bs2]) ∧ Q (AExit.normal) (mkR 148 [(0, AVal.ptr 0 2 0 0), (15, AVal.slc false 1 1 0 11 none), (16, AVal.int IntKind.i64 11), (17, AVal.int IntKind.i64 10)]) ([AObj.rows false 2 [[AVal.ptr 0 2 0 0, AVal.slc false 4 1 0 k2 none]], AObj.rows false 1 (flM 3), AObj.dead, AObj.rows true 11 [(rM m0 m1 m2 m3 m4 m5 m6 (AVal.fsl nb 2 rs none) m8 m9 m10)], AObj.trows 5 true 1 bs2])) ∧ (((nOk (↑(List.length rs) : Int) = false) ∧ ((↑(List.length rs) : Int) < 9223372036854775808)) → Q (AExit.pan 117) (mkR 148 [(0, AVal.ptr 0 2 0 0), (15, AVal.slc false 1 1 0 11 none), (16, AVal.int IntKind.i64 11), (17, AVal.int IntKind.i64 9)]) ([AObj.dead, AObj.rows false 1 (flM 3), AObj.dead, AObj.rows true 11 [(rM m0 m1 m2 m3 m4 m5 m6 (AVal.fsl nb 2 rs none) m8 m9 m10)]])) ∧ (((nOk (↑(List.length rs) : Int) = true) ∧ (k = List.length bs) ∧ (List.length bs ≤ 70368744177664)) ∨ ((nOk (↑(List.length rs) : Int) = false) ∧ ((↑(List.length rs) : Int) < 9223372036854775808))))) ∧ (((decide ((↑(List.length rs) : Int) ≤ 16) = false)) → Q (AExit.pan 117) (mkR 148 [(0, AVal.ptr 0 2 0 0), (15, AVal.slc false 1 1 0 11 none), (16, AVal.int IntKind.i64 11), (17, AVal.int IntKind.i64 9)]) ([AObj.rows false 2 [[AVal.ptr 0 2 0 0, AVal.slc false 4 1 0 k none]], AObj.rows false 1 (flM 3), AObj.dead, AObj.rows true 11 [(rM m0 m1 m2 m3 m4 m5 m6 (AVal.fsl nb 2 rs none) m8 m9 m10)], AObj.trows 5 true 1 bs])) ∧ (((decide ((↑(List.length rs) : Int) ≤ 16) = true)) ∨ ((decide ((↑(List.length rs) : Int) ≤ 16) = false))))
theorem pMN_wp (m0 m1 m2 m3 m4 m5 m6 m8 : Int) (m9 : Bool) (m10 : ByteArray) (nb : Bool) (rs : List (List AVal)) (k k2 : Nat) (bs bs2 : List (List AVal)) {Q : AExit → Regs → AState → Prop} (h : pMN_T m0 m1 m2 m3 m4 m5 m6 m8 m9 m10 nb rs k k2 bs bs2 Q) : ∃ e rg' σ', TripN Try.prog 4 (loopNo Try.f64 0) (rgpM 9) (hppM (rM m0 m1 m2 m3 m4 m5 m6 (AVal.fsl nb 2 rs none) m8 m9 m10) k bs) e rg' σ' ∧ Q e rg' σ' :=
  Or.elim h.2.2 (fun (c0 : (decide ((↑(List.length rs) : Int) ≤ 16) = true)) => Or.elim (h.1 c0).2.2 (fun (c1 : (nOk (↑(List.length rs) : Int) = true) ∧ (k = List.length bs) ∧ (List.length bs ≤ 70368744177664)) => ⟨_, _, _, pMN_1 m0 m1 m2 m3 m4 m5 m6 m8 m9 m10 nb rs k k2 bs bs2 (((h.1 c0).1 c1).1) (c1.1) (c1.2.1) (c1.2.2) (c0), ((h.1 c0).1 c1).2⟩) (fun (c2 : (nOk (↑(List.length rs) : Int) = false) ∧ ((↑(List.length rs) : Int) < 9223372036854775808)) => ⟨_, _, _, pMN_2 m0 m1 m2 m3 m4 m5 m6 m8 m9 m10 nb rs k k2 bs bs2 (c2.1) (c2.2) (c0), ((h.1 c0).2.1 c2)⟩)) (fun (c3 : (decide ((↑(List.length rs) : Int) ≤ 16) = false)) => ⟨_, _, _, pMN_3 m0 m1 m2 m3 m4 m5 m6 m8 m9 m10 nb rs k k2 bs bs2 (c3), (h.2.1 c3)⟩)


theorem pMNn_1 (m0 m1 m2 m3 m4 m5 m6 m8 : Int) (m9 : Bool) (m10 : ByteArray) (nb : Bool) (rs : List (List AVal)) (k : Nat) (bs : List (List AVal))
    (h1 : TripN Try.prog 4 (Code.loop (loopNo Try.f64 1)) (mkR 148 [(0, AVal.ptr 0 2 0 0), (11, AVal.ptr 3 11 0 7), (15, AVal.slc false 1 1 0 11 none), (16, AVal.int IntKind.i64 11), (17, AVal.int IntKind.i64 9), (85, AVal.int IntKind.i64 (↑(List.length rs) : Int)), (86, AVal.int IntKind.i64 0)]) [AObj.rows false 2 [[AVal.ptr 0 2 0 0, AVal.slc false 4 1 0 (k + List.length (nRows (↑(List.length rs) : Int))) none]], AObj.rows false 1 (flM 3), AObj.dead, AObj.rows true 11 [(rM m0 m1 m2 m3 m4 m5 m6 (AVal.fsl nb 2 rs none) m8 m9 m10)], AObj.trows 5 true 1 (bs ++ nRows (↑(List.length rs) : Int))] (AExit.pan 117) (mkR 148 []) [AObj.dead, AObj.dead, AObj.dead, AObj.dead])
    (h2 : nOk (↑(List.length rs) : Int) = true)
    (h3 : k = List.length bs)
    (h4 : List.length bs ≤ 70368744177664)
    (h5 : decide ((↑(List.length rs) : Int) ≤ 16) = true) :
    TripN Try.prog 4 (loopNo Try.f64 0) (rgpM 9) (hppM (rM m0 m1 m2 m3 m4 m5 m6 (AVal.fsl nb 2 rs none) m8 m9 m10) k bs) (AExit.pan 117) (mkR 148 []) ([AObj.dead, AObj.dead, AObj.dead, AObj.dead]) :=
  evalT (st := St.mk (rgpM 9) (hppM (rM m0 m1 m2 m3 m4 m5 m6 (AVal.fsl nb 2 rs none) m8 m9 m10) k bs) ([Dec.br true, Dec.use [] [AVal.bool (decide ((↑(List.length rs) : Int) ≤ 16))] [] (AVal.tuple []) [], Dec.use [0, 4] [AVal.ptr 0 2 0 0, AVal.int IntKind.i64 (↑(List.length rs) : Int)] [AObj.rows false 2 [[AVal.ptr 0 2 0 0, AVal.slc false 1 1 0 k none]], AObj.trows 5 true 1 bs] (AVal.tuple []) [AObj.rows false 2 [[AVal.ptr 0 2 0 0, AVal.slc false 2 1 0 (k + List.length (nRows (↑(List.length rs) : Int))) none]], AObj.dead, AObj.trows 5 true 1 (bs ++ nRows (↑(List.length rs) : Int))], Dec.compact (keepM 148 [0, 11, 15, 16, 17, 85, 86]) [0, 1, 2, 3, 5], Dec.loop (AExit.pan 117) (mkR 148 []) (List.replicate 4 AObj.dead)]) []) (st' := St.mk (mkR 148 []) ([AObj.dead, AObj.dead, AObj.dead, AObj.dead]) ([]) ((Owed.loop (owed Try.prog 4) (loopNo Try.f64 1) (mkR 148 [(0, AVal.ptr 0 2 0 0), (11, AVal.ptr 3 11 0 7), (15, AVal.slc false 1 1 0 11 none), (16, AVal.int IntKind.i64 11), (17, AVal.int IntKind.i64 9), (85, AVal.int IntKind.i64 (↑(List.length rs) : Int)), (86, AVal.int IntKind.i64 0)]) [AObj.rows false 2 [[AVal.ptr 0 2 0 0, AVal.slc false 4 1 0 (k + List.length (nRows (↑(List.length rs) : Int))) none]], AObj.rows false 1 (flM 3), AObj.dead, AObj.rows true 11 [(rM m0 m1 m2 m3 m4 m5 m6 (AVal.fsl nb 2 rs none) m8 m9 m10)], AObj.trows 5 true 1 (bs ++ nRows (↑(List.length rs) : Int))] (AExit.pan 117) (mkR 148 []) [AObj.dead, AObj.dead, AObj.dead, AObj.dead]) :: (tr 3 ++ ((Owed.use (owed Try.prog 4) 68 [0, 4] [AVal.ptr 0 2 0 0, AVal.int IntKind.i64 (↑(List.length rs) : Int)] [AObj.rows false 2 [[AVal.ptr 0 2 0 0, AVal.slc false 4 1 0 k none]], AObj.rows false 1 (flM 3), AObj.dead, AObj.rows true 11 [(rM m0 m1 m2 m3 m4 m5 m6 (AVal.fsl nb 2 rs none) m8 m9 m10)], AObj.trows 5 true 1 bs] [AVal.ptr 0 2 0 0, AVal.int IntKind.i64 (↑(List.length rs) : Int)] [AObj.rows false 2 [[AVal.ptr 0 2 0 0, AVal.slc false 1 1 0 k none]], AObj.trows 5 true 1 bs] (AVal.tuple []) [AObj.rows false 2 [[AVal.ptr 0 2 0 0, AVal.slc false 2 1 0 (k + List.length (nRows (↑(List.length rs) : Int))) none]], AObj.dead, AObj.trows 5 true 1 (bs ++ nRows (↑(List.length rs) : Int))]) :: (tr 3 ++ ((Owed.use (owed Try.prog 4) 58 [] [AVal.bool (decide ((↑(List.length rs) : Int) ≤ 16))] [AObj.rows false 2 [[AVal.ptr 0 2 0 0, AVal.slc false 4 1 0 k none]], AObj.rows false 1 (flM 3), AObj.dead, AObj.rows true 11 [(rM m0 m1 m2 m3 m4 m5 m6 (AVal.fsl nb 2 rs none) m8 m9 m10)], AObj.trows 5 true 1 bs] [AVal.bool (decide ((↑(List.length rs) : Int) ≤ 16))] [] (AVal.tuple []) []) :: (tr 7 ++ []))))))) followed (by kernel_rfl) (allP_of ⟨h1, (trC 3 ⟨⟨(@Go.L12.num_ok ((↑(List.length rs) : Int)) (bs) (k) h2 h3 h4), rfl, rfl, rfl⟩, (trC 3 ⟨⟨(@Go.L12.right_ok (decide ((↑(List.length rs) : Int) ≤ 16)) h5), rfl, rfl, rfl⟩, (trC 7 trivial)⟩)⟩)⟩) (keepM 148 [0, 15, 16, 17]) ([0, 1, 2, 3]) (by kernel_rfl) (by kernel_rfl) (by kernel_rfl)

theorem pMNn_2 (m0 m1 m2 m3 m4 m5 m6 m8 : Int) (m9 : Bool) (m10 : ByteArray) (nb : Bool) (rs : List (List AVal)) (k : Nat) (bs : List (List AVal))
    (h1 : nOk (↑(List.length rs) : Int) = false)
    (h2 : (↑(List.length rs) : Int) < 9223372036854775808)
    (h3 : decide ((↑(List.length rs) : Int) ≤ 16) = true) :
    TripN Try.prog 4 (loopNo Try.f64 0) (rgpM 9) (hppM (rM m0 m1 m2 m3 m4 m5 m6 (AVal.fsl nb 2 rs none) m8 m9 m10) k bs) (AExit.pan 117) (mkR 148 [(0, AVal.ptr 0 2 0 0), (15, AVal.slc false 1 1 0 11 none), (16, AVal.int IntKind.i64 11), (17, AVal.int IntKind.i64 9)]) ([AObj.dead, AObj.rows false 1 (flM 3), AObj.dead, AObj.rows true 11 [(rM m0 m1 m2 m3 m4 m5 m6 (AVal.fsl nb 2 rs none) m8 m9 m10)]]) :=
  evalT (st := St.mk (rgpM 9) (hppM (rM m0 m1 m2 m3 m4 m5 m6 (AVal.fsl nb 2 rs none) m8 m9 m10) k bs) ([Dec.br true, Dec.use [] [AVal.bool (decide ((↑(List.length rs) : Int) ≤ 16))] [] (AVal.tuple []) [], Dec.use [0, 4] [AVal.ptr 0 2 0 0, AVal.int IntKind.i64 (↑(List.length rs) : Int)] [AObj.rows false 2 [[AVal.ptr 0 2 0 0, AVal.slc false 1 1 0 k none]], AObj.trows 5 true 1 bs] (AVal.pan 117) [AObj.dead, AObj.dead]]) []) (st' := St.mk (mkR 148 [(0, AVal.ptr 0 2 0 0), (5, AVal.iface 111 (AVal.ptr 3 11 0 7)), (11, AVal.ptr 3 11 0 7), (15, AVal.slc false 1 1 0 11 none), (16, AVal.int IntKind.i64 11), (17, AVal.int IntKind.i64 9), (18, AVal.tt true), (19, AVal.ptr 1 1 9 0), (20, AVal.iface 111 (AVal.ptr 3 11 0 7)), (21, AVal.iface 111 (AVal.ptr 3 11 0 7)), (22, AVal.tuple [AVal.nilp, AVal.tt false]), (23, AVal.tt false), (24, AVal.nilp), (30, AVal.tuple [AVal.nilp, AVal.tt false]), (31, AVal.tt false), (32, AVal.nilp), (38, AVal.tuple [AVal.nilp, AVal.tt false]), (39, AVal.tt false), (40, AVal.nilp), (47, AVal.tuple [AVal.nilp, AVal.tt false]), (48, AVal.tt false), (49, AVal.nilp), (67, AVal.tuple [AVal.ptr 3 11 0 7, AVal.tt true]), (68, AVal.tt true), (69, AVal.ptr 3 11 0 7), (70, AVal.ptr 3 11 0 7), (71, AVal.ptr 3 11 0 7), (72, AVal.fsl nb 2 rs none), (73, AVal.int IntKind.i64 (↑(List.length rs) : Int)), (74, AVal.bool (decide ((↑(List.length rs) : Int) ≤ 16))), (75, AVal.tuple []), (76, AVal.ptr 0 2 0 0), (77, AVal.ptr 3 11 0 7), (78, AVal.ptr 3 11 0 7), (79, AVal.fsl nb 2 rs none), (80, AVal.int IntKind.i64 (↑(List.length rs) : Int))]) ([AObj.dead, AObj.rows false 1 (flM 3), AObj.dead, AObj.rows true 11 [(rM m0 m1 m2 m3 m4 m5 m6 (AVal.fsl nb 2 rs none) m8 m9 m10)], AObj.dead]) ([]) ((Owed.use (owed Try.prog 4) 68 [0, 4] [AVal.ptr 0 2 0 0, AVal.int IntKind.i64 (↑(List.length rs) : Int)] [AObj.rows false 2 [[AVal.ptr 0 2 0 0, AVal.slc false 4 1 0 k none]], AObj.rows false 1 (flM 3), AObj.dead, AObj.rows true 11 [(rM m0 m1 m2 m3 m4 m5 m6 (AVal.fsl nb 2 rs none) m8 m9 m10)], AObj.trows 5 true 1 bs] [AVal.ptr 0 2 0 0, AVal.int IntKind.i64 (↑(List.length rs) : Int)] [AObj.rows false 2 [[AVal.ptr 0 2 0 0, AVal.slc false 1 1 0 k none]], AObj.trows 5 true 1 bs] (AVal.pan 117) [AObj.dead, AObj.dead]) :: (tr 3 ++ ((Owed.use (owed Try.prog 4) 58 [] [AVal.bool (decide ((↑(List.length rs) : Int) ≤ 16))] [AObj.rows false 2 [[AVal.ptr 0 2 0 0, AVal.slc false 4 1 0 k none]], AObj.rows false 1 (flM 3), AObj.dead, AObj.rows true 11 [(rM m0 m1 m2 m3 m4 m5 m6 (AVal.fsl nb 2 rs none) m8 m9 m10)], AObj.trows 5 true 1 bs] [AVal.bool (decide ((↑(List.length rs) : Int) ≤ 16))] [] (AVal.tuple []) []) :: (tr 7 ++ []))))) followed (by kernel_rfl) (allP_of ⟨⟨(@Go.L12.num_no ((↑(List.length rs) : Int)) (bs) (k) h1 h2), rfl, rfl, rfl⟩, (trC 3 ⟨⟨(@Go.L12.right_ok (decide ((↑(List.length rs) : Int) ≤ 16)) h3), rfl, rfl, rfl⟩, (trC 7 trivial)⟩)⟩) (keepM 148 [0, 15, 16, 17]) ([0, 1, 2, 3]) (by kernel_rfl) (by kernel_rfl) (by kernel_rfl)

theorem pMNn_3 (m0 m1 m2 m3 m4 m5 m6 m8 : Int) (m9 : Bool) (m10 : ByteArray) (nb : Bool) (rs : List (List AVal)) (k : Nat) (bs : List (List AVal))
    (h1 : decide ((↑(List.length rs) : Int) ≤ 16) = false) :
    TripN Try.prog 4 (loopNo Try.f64 0) (rgpM 9) (hppM (rM m0 m1 m2 m3 m4 m5 m6 (AVal.fsl nb 2 rs none) m8 m9 m10) k bs) (AExit.pan 117) (mkR 148 [(0, AVal.ptr 0 2 0 0), (15, AVal.slc false 1 1 0 11 none), (16, AVal.int IntKind.i64 11), (17, AVal.int IntKind.i64 9)]) ([AObj.rows false 2 [[AVal.ptr 0 2 0 0, AVal.slc false 4 1 0 k none]], AObj.rows false 1 (flM 3), AObj.dead, AObj.rows true 11 [(rM m0 m1 m2 m3 m4 m5 m6 (AVal.fsl nb 2 rs none) m8 m9 m10)], AObj.trows 5 true 1 bs]) :=
  evalT (st := St.mk (rgpM 9) (hppM (rM m0 m1 m2 m3 m4 m5 m6 (AVal.fsl nb 2 rs none) m8 m9 m10) k bs) ([Dec.br true, Dec.use [] [AVal.bool (decide ((↑(List.length rs) : Int) ≤ 16))] [] (AVal.pan 117) []]) []) (st' := St.mk (mkR 148 [(0, AVal.ptr 0 2 0 0), (5, AVal.iface 111 (AVal.ptr 3 11 0 7)), (11, AVal.ptr 3 11 0 7), (15, AVal.slc false 1 1 0 11 none), (16, AVal.int IntKind.i64 11), (17, AVal.int IntKind.i64 9), (18, AVal.tt true), (19, AVal.ptr 1 1 9 0), (20, AVal.iface 111 (AVal.ptr 3 11 0 7)), (21, AVal.iface 111 (AVal.ptr 3 11 0 7)), (22, AVal.tuple [AVal.nilp, AVal.tt false]), (23, AVal.tt false), (24, AVal.nilp), (30, AVal.tuple [AVal.nilp, AVal.tt false]), (31, AVal.tt false), (32, AVal.nilp), (38, AVal.tuple [AVal.nilp, AVal.tt false]), (39, AVal.tt false), (40, AVal.nilp), (47, AVal.tuple [AVal.nilp, AVal.tt false]), (48, AVal.tt false), (49, AVal.nilp), (67, AVal.tuple [AVal.ptr 3 11 0 7, AVal.tt true]), (68, AVal.tt true), (69, AVal.ptr 3 11 0 7), (70, AVal.ptr 3 11 0 7), (71, AVal.ptr 3 11 0 7), (72, AVal.fsl nb 2 rs none), (73, AVal.int IntKind.i64 (↑(List.length rs) : Int)), (74, AVal.bool (decide ((↑(List.length rs) : Int) ≤ 16)))]) ([AObj.rows false 2 [[AVal.ptr 0 2 0 0, AVal.slc false 4 1 0 k none]], AObj.rows false 1 (flM 3), AObj.dead, AObj.rows true 11 [(rM m0 m1 m2 m3 m4 m5 m6 (AVal.fsl nb 2 rs none) m8 m9 m10)], AObj.trows 5 true 1 bs]) ([]) ((Owed.use (owed Try.prog 4) 58 [] [AVal.bool (decide ((↑(List.length rs) : Int) ≤ 16))] [AObj.rows false 2 [[AVal.ptr 0 2 0 0, AVal.slc false 4 1 0 k none]], AObj.rows false 1 (flM 3), AObj.dead, AObj.rows true 11 [(rM m0 m1 m2 m3 m4 m5 m6 (AVal.fsl nb 2 rs none) m8 m9 m10)], AObj.trows 5 true 1 bs] [AVal.bool (decide ((↑(List.length rs) : Int) ≤ 16))] [] (AVal.pan 117) []) :: (tr 7 ++ []))) followed (by kernel_rfl) (allP_of ⟨⟨(@Go.L12.right_no (decide ((↑(List.length rs) : Int) ≤ 16)) h1), rfl, rfl, rfl⟩, (trC 7 trivial)⟩) (keepM 148 [0, 15, 16, 17]) ([0, 1, 2, 3, 4]) (by kernel_rfl) (by kernel_rfl) (by kernel_rfl)

def pMNn_T (m0 m1 m2 m3 m4 m5 m6 m8 : Int) (m9 : Bool) (m10 : ByteArray) (nb : Bool) (rs : List (List AVal)) (k : Nat) (bs : List (List AVal)) (Q : AExit → Regs → AState → Prop) : Prop := ((((decide ((↑(List.length rs) : Int) ≤ 16) = true)) → ((((nOk (↑(List.length rs) : Int) = true) ∧ (k = List.length bs) ∧ (List.length bs ≤ 70368744177664)) → (TripN Try.prog 4 (Code.loop (loopNo Try.f64 1)) (mkR 148 [(0, AVal.ptr 0 2 0 0), (11, AVal.ptr 3 11 0 7), (15, AVal.slc false 1 1 0 11 none), (16, AVal.int IntKind.i64 11), (17, AVal.int IntKind.i64 9), (85, AVal.int IntKind.i64 (↑(List.length rs) : Int)), (86, AVal.int IntKind.i64 0)]) [AObj.rows false 2 [[AVal.ptr 0 2 0 0, AVal.slc false 4 1 0 (k + List.length (nRows (↑(List.length rs) : Int))) none]], AObj.rows false 1 (flM 3), AObj.dead, AObj.rows true 11 [(rM m0 m1 m2 m3 m4 m5 m6 (AVal.fsl nb 2 rs none) m8 m9 m10)], AObj.trows 5 true 1 (bs ++ nRows (↑(List.length rs) : Int))] (AExit.pan 117) (mkR 148 []) [AObj.dead, AObj.dead, AObj.dead, AObj.dead]) ∧ Q (AExit.pan 117) (mkR 148 []) ([AObj.dead, AObj.dead, AObj.dead, AObj.dead])) ∧ (((nOk (↑(List.length rs) : Int) = false) ∧ ((↑(List.length rs) : Int) < 9223372036854775808)) → Q (AExit.pan 117) (mkR 148 [(0, AVal.ptr 0 2 0 0), (15, AVal.slc false 1 1 0 11 none), (16, AVal.int IntKind.i64 11), (17, AVal.int IntKind.i64 9)]) ([AObj.dead, AObj.rows false 1 (flM 3), AObj.dead, AObj.rows true 11 [(rM m0 m1 m2 m3 m4 m5 m6 (AVal.fsl nb 2 rs none) m8 m9 m10)]])) ∧ (((nOk (↑(List.length rs) : Int) = true) ∧ (k = List.length bs) ∧ (List.length bs ≤ 70368744177664)) ∨ ((nOk (↑(List.length rs) : Int) = false) ∧ ((↑(List.length rs) : Int) < 9223372036854775808))))) ∧ (((decide ((↑(List.length rs) : Int) ≤ 16) = false)) → Q (AExit.pan 117) (mkR 148 [(0, AVal.ptr 0 2 0 0), (15, AVal.slc false 1 1 0 11 none), (16, AVal.int IntKind.i64 11), (17, AVal.int IntKind.i64 9)]) ([AObj.rows false 2 [[AVal.ptr 0 2 0 0, AVal.slc false 4 1 0 k none]], AObj.rows false 1 (flM 3), AObj.dead, AObj.rows true 11 [(rM m0 m1 m2 m3 m4 m5 m6 (AVal.fsl nb 2 rs none) m8 m9 m10)], AObj.trows 5 true 1 bs])) ∧ (((decide ((↑(List.length rs) : Int) ≤ 16) = true)) ∨ ((decide ((↑(List.length rs) : Int) ≤ 16) = false))))
theorem pMNn_wp (m0 m1 m2 m3 m4 m5 m6 m8 : Int) (m9 : Bool) (m10 : ByteArray) (nb : Bool) (rs : List (List AVal)) (k : Nat) (bs : List (List AVal)) {Q : AExit → Regs → AState → Prop} (h : pMNn_T m0 m1 m2 m3 m4 m5 m6 m8 m9 m10 nb rs k bs Q) : ∃ e rg' σ', TripN Try.prog 4 (loopNo Try.f64 0) (rgpM 9) (hppM (rM m0 m1 m2 m3 m4 m5 m6 (AVal.fsl nb 2 rs none) m8 m9 m10) k bs) e rg' σ' ∧ Q e rg' σ' :=
  Or.elim h.2.2 (fun (c0 : (decide ((↑(List.length rs) : Int) ≤ 16) = true)) => Or.elim (h.1 c0).2.2 (fun (c1 : (nOk (↑(List.length rs) : Int) = true) ∧ (k = List.length bs) ∧ (List.length bs ≤ 70368744177664)) => ⟨_, _, _, pMNn_1 m0 m1 m2 m3 m4 m5 m6 m8 m9 m10 nb rs k bs (((h.1 c0).1 c1).1) (c1.1) (c1.2.1) (c1.2.2) (c0), ((h.1 c0).1 c1).2⟩) (fun (c2 : (nOk (↑(List.length rs) : Int) = false) ∧ ((↑(List.length rs) : Int) < 9223372036854775808)) => ⟨_, _, _, pMNn_2 m0 m1 m2 m3 m4 m5 m6 m8 m9 m10 nb rs k bs (c2.1) (c2.2) (c0), ((h.1 c0).2.1 c2)⟩)) (fun (c3 : (decide ((↑(List.length rs) : Int) ≤ 16) = false)) => ⟨_, _, _, pMNn_3 m0 m1 m2 m3 m4 m5 m6 m8 m9 m10 nb rs k bs (c3), (h.2.1 c3)⟩)


theorem tMN_1 (m0 m1 m2 m3 m4 m5 m6 m8 : Int) (m9 : Bool) (m10 : ByteArray) (v : AVal) (s s2 : ByteArray)
    (h1 : TripN Try.prog 3 (Code.loop (loopNo Try.f60 1)) (mkR 117 [(0, AVal.ptr 0 1 0 0), (11, AVal.ptr 2 11 0 7), (15, AVal.slc false 1 1 0 11 none), (16, AVal.int IntKind.i64 11), (17, AVal.int IntKind.i64 9), (74, AVal.int IntKind.i64 (tkV s)), (75, AVal.int IntKind.i64 0)]) [AObj.rows true 1 [[AVal.str (tkR s)]], AObj.rows false 1 (flM 2), AObj.rows true 11 [(rM m0 m1 m2 m3 m4 m5 m6 (AVal.fsl true 0 [] (some 0)) m8 m9 m10)]] (AExit.exit 3) (mkR 117 [(0, AVal.ptr 0 1 0 0), (11, AVal.ptr 2 11 0 7), (15, AVal.slc false 1 1 0 11 none), (16, AVal.int IntKind.i64 11), (17, AVal.int IntKind.i64 9), (74, AVal.int IntKind.i64 (tkV s)), (75, AVal.int IntKind.i64 (tkV s))]) [AObj.rows true 1 [[AVal.str s2]], AObj.rows false 1 (flM 2), AObj.rows true 11 [(rM m0 m1 m2 m3 m4 m5 m6 (v) m8 m9 m10)]])
    (h2 : tkOk s 16 = true) :
    TripN Try.prog 3 (loopNo Try.f60 0) (rgtM 9) (hptM (rM m0 m1 m2 m3 m4 m5 m6 (AVal.fsl true 0 [] (some 0)) m8 m9 m10) s) (AExit.normal) (mkR 117 [(0, AVal.ptr 0 1 0 0), (15, AVal.slc false 1 1 0 11 none), (16, AVal.int IntKind.i64 11), (17, AVal.int IntKind.i64 10)]) ([AObj.rows true 1 [[AVal.str s2]], AObj.rows false 1 (flM 2), AObj.rows true 11 [(rM m0 m1 m2 m3 m4 m5 m6 (v) m8 m9 m10)]]) :=
  evalT (st := St.mk (rgtM 9) (hptM (rM m0 m1 m2 m3 m4 m5 m6 (AVal.fsl true 0 [] (some 0)) m8 m9 m10) s) ([Dec.br true, Dec.use [0] [AVal.ptr 0 1 0 0, AVal.int IntKind.i64 16] [AObj.rows true 1 [[AVal.str s]]] (AVal.int IntKind.i64 (tkV s)) [AObj.rows true 1 [[AVal.str (tkR s)]]], Dec.compact (keepM 117 [0, 11, 15, 16, 17, 74, 75]) [0, 1, 2], Dec.loop (AExit.exit 3) (rgtMr 9 (tkV s) (tkV s)) (hptM (rM m0 m1 m2 m3 m4 m5 m6 v m8 m9 m10) s2)]) []) (st' := St.mk (mkR 117 [(0, AVal.ptr 0 1 0 0), (11, AVal.ptr 2 11 0 7), (15, AVal.slc false 1 1 0 11 none), (16, AVal.int IntKind.i64 11), (17, AVal.int IntKind.i64 10), (74, AVal.int IntKind.i64 (tkV s)), (75, AVal.int IntKind.i64 (tkV s)), (116, AVal.int IntKind.i64 10)]) ([AObj.rows true 1 [[AVal.str s2]], AObj.rows false 1 (flM 2), AObj.rows true 11 [(rM m0 m1 m2 m3 m4 m5 m6 (v) m8 m9 m10)]]) ([]) ((Owed.loop (owed Try.prog 3) (loopNo Try.f60 1) (mkR 117 [(0, AVal.ptr 0 1 0 0), (11, AVal.ptr 2 11 0 7), (15, AVal.slc false 1 1 0 11 none), (16, AVal.int IntKind.i64 11), (17, AVal.int IntKind.i64 9), (74, AVal.int IntKind.i64 (tkV s)), (75, AVal.int IntKind.i64 0)]) [AObj.rows true 1 [[AVal.str (tkR s)]], AObj.rows false 1 (flM 2), AObj.rows true 11 [(rM m0 m1 m2 m3 m4 m5 m6 (AVal.fsl true 0 [] (some 0)) m8 m9 m10)]] (AExit.exit 3) (mkR 117 [(0, AVal.ptr 0 1 0 0), (11, AVal.ptr 2 11 0 7), (15, AVal.slc false 1 1 0 11 none), (16, AVal.int IntKind.i64 11), (17, AVal.int IntKind.i64 9), (74, AVal.int IntKind.i64 (tkV s)), (75, AVal.int IntKind.i64 (tkV s))]) [AObj.rows true 1 [[AVal.str s2]], AObj.rows false 1 (flM 2), AObj.rows true 11 [(rM m0 m1 m2 m3 m4 m5 m6 (v) m8 m9 m10)]]) :: ((Owed.use (owed Try.prog 3) 66 [0] [AVal.ptr 0 1 0 0, AVal.int IntKind.i64 16] [AObj.rows true 1 [[AVal.str s]], AObj.rows false 1 (flM 2), AObj.rows true 11 [(rM m0 m1 m2 m3 m4 m5 m6 (AVal.fsl true 0 [] (some 0)) m8 m9 m10)]] [AVal.ptr 0 1 0 0, AVal.int IntKind.i64 16] [AObj.rows true 1 [[AVal.str s]]] (AVal.int IntKind.i64 (tkV s)) [AObj.rows true 1 [[AVal.str (tkR s)]]]) :: (tr 4 ++ [])))) followed (by kernel_rfl) (allP_of ⟨h1, ⟨⟨(@Go.L12.taken_ok (s) (16) h2), rfl, rfl, rfl⟩, (trC 4 trivial)⟩⟩) (keepM 117 [0, 15, 16, 17]) ([0, 1, 2]) (by kernel_rfl) (by kernel_rfl) (by kernel_rfl)

theorem tMN_2 (m0 m1 m2 m3 m4 m5 m6 m8 : Int) (m9 : Bool) (m10 : ByteArray) (v : AVal) (s s2 : ByteArray)
    (h1 : tkOk s 16 = false) :
    TripN Try.prog 3 (loopNo Try.f60 0) (rgtM 9) (hptM (rM m0 m1 m2 m3 m4 m5 m6 (AVal.fsl true 0 [] (some 0)) m8 m9 m10) s) (AExit.pan 117) (mkR 117 [(0, AVal.ptr 0 1 0 0), (15, AVal.slc false 1 1 0 11 none), (16, AVal.int IntKind.i64 11), (17, AVal.int IntKind.i64 9)]) ([AObj.dead, AObj.rows false 1 (flM 2), AObj.rows true 11 [(rM m0 m1 m2 m3 m4 m5 m6 (AVal.fsl true 0 [] (some 0)) m8 m9 m10)]]) :=
  evalT (st := St.mk (rgtM 9) (hptM (rM m0 m1 m2 m3 m4 m5 m6 (AVal.fsl true 0 [] (some 0)) m8 m9 m10) s) ([Dec.br true, Dec.use [0] [AVal.ptr 0 1 0 0, AVal.int IntKind.i64 16] [AObj.rows true 1 [[AVal.str s]]] (AVal.pan 117) [AObj.dead]]) []) (st' := St.mk (mkR 117 [(0, AVal.ptr 0 1 0 0), (5, AVal.iface 111 (AVal.ptr 2 11 0 7)), (11, AVal.ptr 2 11 0 7), (15, AVal.slc false 1 1 0 11 none), (16, AVal.int IntKind.i64 11), (17, AVal.int IntKind.i64 9), (18, AVal.tt true), (19, AVal.ptr 1 1 9 0), (20, AVal.iface 111 (AVal.ptr 2 11 0 7)), (21, AVal.iface 111 (AVal.ptr 2 11 0 7)), (22, AVal.tuple [AVal.nilp, AVal.tt false]), (23, AVal.tt false), (24, AVal.nilp), (29, AVal.tuple [AVal.nilp, AVal.tt false]), (30, AVal.tt false), (31, AVal.nilp), (36, AVal.tuple [AVal.nilp, AVal.tt false]), (37, AVal.tt false), (38, AVal.nilp), (44, AVal.tuple [AVal.nilp, AVal.tt false]), (45, AVal.tt false), (46, AVal.nilp), (70, AVal.tuple [AVal.ptr 2 11 0 7, AVal.tt true]), (71, AVal.tt true), (72, AVal.ptr 2 11 0 7), (73, AVal.ptr 0 1 0 0)]) ([AObj.dead, AObj.rows false 1 (flM 2), AObj.rows true 11 [(rM m0 m1 m2 m3 m4 m5 m6 (AVal.fsl true 0 [] (some 0)) m8 m9 m10)]]) ([]) ((Owed.use (owed Try.prog 3) 66 [0] [AVal.ptr 0 1 0 0, AVal.int IntKind.i64 16] [AObj.rows true 1 [[AVal.str s]], AObj.rows false 1 (flM 2), AObj.rows true 11 [(rM m0 m1 m2 m3 m4 m5 m6 (AVal.fsl true 0 [] (some 0)) m8 m9 m10)]] [AVal.ptr 0 1 0 0, AVal.int IntKind.i64 16] [AObj.rows true 1 [[AVal.str s]]] (AVal.pan 117) [AObj.dead]) :: (tr 4 ++ []))) followed (by kernel_rfl) (allP_of ⟨⟨(@Go.L12.taken_no (s) (16) h1), rfl, rfl, rfl⟩, (trC 4 trivial)⟩) (keepM 117 [0, 15, 16, 17]) ([0, 1, 2]) (by kernel_rfl) (by kernel_rfl) (by kernel_rfl)

def tMN_T (m0 m1 m2 m3 m4 m5 m6 m8 : Int) (m9 : Bool) (m10 : ByteArray) (v : AVal) (s s2 : ByteArray) (Q : AExit → Regs → AState → Prop) : Prop := ((((tkOk s 16 = true)) → (TripN Try.prog 3 (Code.loop (loopNo Try.f60 1)) (mkR 117 [(0, AVal.ptr 0 1 0 0), (11, AVal.ptr 2 11 0 7), (15, AVal.slc false 1 1 0 11 none), (16, AVal.int IntKind.i64 11), (17, AVal.int IntKind.i64 9), (74, AVal.int IntKind.i64 (tkV s)), (75, AVal.int IntKind.i64 0)]) [AObj.rows true 1 [[AVal.str (tkR s)]], AObj.rows false 1 (flM 2), AObj.rows true 11 [(rM m0 m1 m2 m3 m4 m5 m6 (AVal.fsl true 0 [] (some 0)) m8 m9 m10)]] (AExit.exit 3) (mkR 117 [(0, AVal.ptr 0 1 0 0), (11, AVal.ptr 2 11 0 7), (15, AVal.slc false 1 1 0 11 none), (16, AVal.int IntKind.i64 11), (17, AVal.int IntKind.i64 9), (74, AVal.int IntKind.i64 (tkV s)), (75, AVal.int IntKind.i64 (tkV s))]) [AObj.rows true 1 [[AVal.str s2]], AObj.rows false 1 (flM 2), AObj.rows true 11 [(rM m0 m1 m2 m3 m4 m5 m6 (v) m8 m9 m10)]]) ∧ Q (AExit.normal) (mkR 117 [(0, AVal.ptr 0 1 0 0), (15, AVal.slc false 1 1 0 11 none), (16, AVal.int IntKind.i64 11), (17, AVal.int IntKind.i64 10)]) ([AObj.rows true 1 [[AVal.str s2]], AObj.rows false 1 (flM 2), AObj.rows true 11 [(rM m0 m1 m2 m3 m4 m5 m6 (v) m8 m9 m10)]])) ∧ (((tkOk s 16 = false)) → Q (AExit.pan 117) (mkR 117 [(0, AVal.ptr 0 1 0 0), (15, AVal.slc false 1 1 0 11 none), (16, AVal.int IntKind.i64 11), (17, AVal.int IntKind.i64 9)]) ([AObj.dead, AObj.rows false 1 (flM 2), AObj.rows true 11 [(rM m0 m1 m2 m3 m4 m5 m6 (AVal.fsl true 0 [] (some 0)) m8 m9 m10)]])) ∧ (((tkOk s 16 = true)) ∨ ((tkOk s 16 = false))))
theorem tMN_wp (m0 m1 m2 m3 m4 m5 m6 m8 : Int) (m9 : Bool) (m10 : ByteArray) (v : AVal) (s s2 : ByteArray) {Q : AExit → Regs → AState → Prop} (h : tMN_T m0 m1 m2 m3 m4 m5 m6 m8 m9 m10 v s s2 Q) : ∃ e rg' σ', TripN Try.prog 3 (loopNo Try.f60 0) (rgtM 9) (hptM (rM m0 m1 m2 m3 m4 m5 m6 (AVal.fsl true 0 [] (some 0)) m8 m9 m10) s) e rg' σ' ∧ Q e rg' σ' :=
  Or.elim h.2.2 (fun (c0 : (tkOk s 16 = true)) => ⟨_, _, _, tMN_1 m0 m1 m2 m3 m4 m5 m6 m8 m9 m10 v s s2 ((h.1 c0).1) (c0), (h.1 c0).2⟩) (fun (c1 : (tkOk s 16 = false)) => ⟨_, _, _, tMN_2 m0 m1 m2 m3 m4 m5 m6 m8 m9 m10 v s s2 (c1), (h.2.1 c1)⟩)


theorem tMNn_1 (m0 m1 m2 m3 m4 m5 m6 m8 : Int) (m9 : Bool) (m10 s : ByteArray)
    (h1 : TripN Try.prog 3 (Code.loop (loopNo Try.f60 1)) (mkR 117 [(0, AVal.ptr 0 1 0 0), (11, AVal.ptr 2 11 0 7), (15, AVal.slc false 1 1 0 11 none), (16, AVal.int IntKind.i64 11), (17, AVal.int IntKind.i64 9), (74, AVal.int IntKind.i64 (tkV s)), (75, AVal.int IntKind.i64 0)]) [AObj.rows true 1 [[AVal.str (tkR s)]], AObj.rows false 1 (flM 2), AObj.rows true 11 [(rM m0 m1 m2 m3 m4 m5 m6 (AVal.fsl true 0 [] (some 0)) m8 m9 m10)]] (AExit.pan 117) (mkR 117 []) [AObj.dead, AObj.dead, AObj.dead])
    (h2 : tkOk s 16 = true) :
    TripN Try.prog 3 (loopNo Try.f60 0) (rgtM 9) (hptM (rM m0 m1 m2 m3 m4 m5 m6 (AVal.fsl true 0 [] (some 0)) m8 m9 m10) s) (AExit.pan 117) (mkR 117 []) ([AObj.dead, AObj.dead, AObj.dead]) :=
  evalT (st := St.mk (rgtM 9) (hptM (rM m0 m1 m2 m3 m4 m5 m6 (AVal.fsl true 0 [] (some 0)) m8 m9 m10) s) ([Dec.br true, Dec.use [0] [AVal.ptr 0 1 0 0, AVal.int IntKind.i64 16] [AObj.rows true 1 [[AVal.str s]]] (AVal.int IntKind.i64 (tkV s)) [AObj.rows true 1 [[AVal.str (tkR s)]]], Dec.compact (keepM 117 [0, 11, 15, 16, 17, 74, 75]) [0, 1, 2], Dec.loop (AExit.pan 117) (mkR 117 []) (List.replicate 3 AObj.dead)]) []) (st' := St.mk (mkR 117 []) ([AObj.dead, AObj.dead, AObj.dead]) ([]) ((Owed.loop (owed Try.prog 3) (loopNo Try.f60 1) (mkR 117 [(0, AVal.ptr 0 1 0 0), (11, AVal.ptr 2 11 0 7), (15, AVal.slc false 1 1 0 11 none), (16, AVal.int IntKind.i64 11), (17, AVal.int IntKind.i64 9), (74, AVal.int IntKind.i64 (tkV s)), (75, AVal.int IntKind.i64 0)]) [AObj.rows true 1 [[AVal.str (tkR s)]], AObj.rows false 1 (flM 2), AObj.rows true 11 [(rM m0 m1 m2 m3 m4 m5 m6 (AVal.fsl true 0 [] (some 0)) m8 m9 m10)]] (AExit.pan 117) (mkR 117 []) [AObj.dead, AObj.dead, AObj.dead]) :: ((Owed.use (owed Try.prog 3) 66 [0] [AVal.ptr 0 1 0 0, AVal.int IntKind.i64 16] [AObj.rows true 1 [[AVal.str s]], AObj.rows false 1 (flM 2), AObj.rows true 11 [(rM m0 m1 m2 m3 m4 m5 m6 (AVal.fsl true 0 [] (some 0)) m8 m9 m10)]] [AVal.ptr 0 1 0 0, AVal.int IntKind.i64 16] [AObj.rows true 1 [[AVal.str s]]] (AVal.int IntKind.i64 (tkV s)) [AObj.rows true 1 [[AVal.str (tkR s)]]]) :: (tr 4 ++ [])))) followed (by kernel_rfl) (allP_of ⟨h1, ⟨⟨(@Go.L12.taken_ok (s) (16) h2), rfl, rfl, rfl⟩, (trC 4 trivial)⟩⟩) (keepM 117 [0, 15, 16, 17]) ([0, 1, 2]) (by kernel_rfl) (by kernel_rfl) (by kernel_rfl)

theorem tMNn_2 (m0 m1 m2 m3 m4 m5 m6 m8 : Int) (m9 : Bool) (m10 s : ByteArray)
    (h1 : tkOk s 16 = false) :
    TripN Try.prog 3 (loopNo Try.f60 0) (rgtM 9) (hptM (rM m0 m1 m2 m3 m4 m5 m6 (AVal.fsl true 0 [] (some 0)) m8 m9 m10) s) (AExit.pan 117) (mkR 117 [(0, AVal.ptr 0 1 0 0), (15, AVal.slc false 1 1 0 11 none), (16, AVal.int IntKind.i64 11), (17, AVal.int IntKind.i64 9)]) ([AObj.dead, AObj.rows false 1 (flM 2), AObj.rows true 11 [(rM m0 m1 m2 m3 m4 m5 m6 (AVal.fsl true 0 [] (some 0)) m8 m9 m10)]]) :=
  evalT (st := St.mk (rgtM 9) (hptM (rM m0 m1 m2 m3 m4 m5 m6 (AVal.fsl true 0 [] (some 0)) m8 m9 m10) s) ([Dec.br true, Dec.use [0] [AVal.ptr 0 1 0 0, AVal.int IntKind.i64 16] [AObj.rows true 1 [[AVal.str s]]] (AVal.pan 117) [AObj.dead]]) []) (st' := St.mk (mkR 117 [(0, AVal.ptr 0 1 0 0), (5, AVal.iface 111 (AVal.ptr 2 11 0 7)), (11, AVal.ptr 2 11 0 7), (15, AVal.slc false 1 1 0 11 none), (16, AVal.int IntKind.i64 11), (17, AVal.int IntKind.i64 9), (18, AVal.tt true), (19, AVal.ptr 1 1 9 0), (20, AVal.iface 111 (AVal.ptr 2 11 0 7)), (21, AVal.iface 111 (AVal.ptr 2 11 0 7)), (22, AVal.tuple [AVal.nilp, AVal.tt false]), (23, AVal.tt false), (24, AVal.nilp), (29, AVal.tuple [AVal.nilp, AVal.tt false]), (30, AVal.tt false), (31, AVal.nilp), (36, AVal.tuple [AVal.nilp, AVal.tt false]), (37, AVal.tt false), (38, AVal.nilp), (44, AVal.tuple [AVal.nilp, AVal.tt false]), (45, AVal.tt false), (46, AVal.nilp), (70, AVal.tuple [AVal.ptr 2 11 0 7, AVal.tt true]), (71, AVal.tt true), (72, AVal.ptr 2 11 0 7), (73, AVal.ptr 0 1 0 0)]) ([AObj.dead, AObj.rows false 1 (flM 2), AObj.rows true 11 [(rM m0 m1 m2 m3 m4 m5 m6 (AVal.fsl true 0 [] (some 0)) m8 m9 m10)]]) ([]) ((Owed.use (owed Try.prog 3) 66 [0] [AVal.ptr 0 1 0 0, AVal.int IntKind.i64 16] [AObj.rows true 1 [[AVal.str s]], AObj.rows false 1 (flM 2), AObj.rows true 11 [(rM m0 m1 m2 m3 m4 m5 m6 (AVal.fsl true 0 [] (some 0)) m8 m9 m10)]] [AVal.ptr 0 1 0 0, AVal.int IntKind.i64 16] [AObj.rows true 1 [[AVal.str s]]] (AVal.pan 117) [AObj.dead]) :: (tr 4 ++ []))) followed (by kernel_rfl) (allP_of ⟨⟨(@Go.L12.taken_no (s) (16) h1), rfl, rfl, rfl⟩, (trC 4 trivial)⟩) (keepM 117 [0, 15, 16, 17]) ([0, 1, 2]) (by kernel_rfl) (by kernel_rfl) (by kernel_rfl)

def tMNn_T (m0 m1 m2 m3 m4 m5 m6 m8 : Int) (m9 : Bool) (m10 s : ByteArray) (Q : AExit → Regs → AState → Prop) : Prop := ((((tkOk s 16 = true)) → (TripN Try.prog 3 (Code.loop (loopNo Try.f60 1)) (mkR 117 [(0, AVal.ptr 0 1 0 0), (11, AVal.ptr 2 11 0 7), (15, AVal.slc false 1 1 0 11 none), (16, AVal.int IntKind.i64 11), (17, AVal.int IntKind.i64 9), (74, AVal.int IntKind.i64 (tkV s)), (75, AVal.int IntKind.i64 0)]) [AObj.rows true 1 [[AVal.str (tkR s)]], AObj.rows false 1 (flM 2), AObj.rows true 11 [(rM m0 m1 m2 m3 m4 m5 m6 (AVal.fsl true 0 [] (some 0)) m8 m9 m10)]] (AExit.pan 117) (mkR 117 []) [AObj.dead, AObj.dead, AObj.dead]) ∧ Q (AExit.pan 117) (mkR 117 []) ([AObj.dead, AObj.dead, AObj.dead])) ∧ (((tkOk s 16 = false)) → Q (AExit.pan 117) (mkR 117 [(0, AVal.ptr 0 1 0 0), (15, AVal.slc false 1 1 0 11 none), (16, AVal.int IntKind.i64 11), (17, AVal.int IntKind.i64 9)]) ([AObj.dead, AObj.rows false 1 (flM 2), AObj.rows true 11 [(rM m0 m1 m2 m3 m4 m5 m6 (AVal.fsl true 0 [] (some 0)) m8 m9 m10)]])) ∧ (((tkOk s 16 = true)) ∨ ((tkOk s 16 = false))))
theorem tMNn_wp (m0 m1 m2 m3 m4 m5 m6 m8 : Int) (m9 : Bool) (m10 s : ByteArray) {Q : AExit → Regs → AState → Prop} (h : tMNn_T m0 m1 m2 m3 m4 m5 m6 m8 m9 m10 s Q) : ∃ e rg' σ', TripN Try.prog 3 (loopNo Try.f60 0) (rgtM 9) (hptM (rM m0 m1 m2 m3 m4 m5 m6 (AVal.fsl true 0 [] (some 0)) m8 m9 m10) s) e rg' σ' ∧ Q e rg' σ' :=
  Or.elim h.2.2 (fun (c0 : (tkOk s 16 = true)) => ⟨_, _, _, tMNn_1 m0 m1 m2 m3 m4 m5 m6 m8 m9 m10 s ((h.1 c0).1) (c0), (h.1 c0).2⟩) (fun (c1 : (tkOk s 16 = false)) => ⟨_, _, _, tMNn_2 m0 m1 m2 m3 m4 m5 m6 m8 m9 m10 s (c1), (h.2.1 c1)⟩)


end Go.L12
end

section
set_option linter.unusedVariables false
set_option linter.unusedSimpArgs false
set_option maxRecDepth 100000
namespace Go.L12
open Go Go.Abs Go.Proofs
theorem pMN_r (m0 m1 m2 m3 m4 m5 m6 m8 : Int) (m9 : Bool) (m10 : ByteArray) (nb : Bool) (rs : List (List AVal)) (hr : ∀ q, q < rs.length → rowK 111 rs q) (hz : rs.length < 4611686018427387904) (l : List UInt8) (hl : l.length ≤ 30000000000000) :
    (∀ b, pL 111 rs = some b → TripN Try.prog 4 (loopNo Try.f64 0) (rgpM 9) (hppM (rM m0 m1 m2 m3 m4 m5 m6 (.fsl nb 2 rs none) m8 m9 m10) l.length (rowsL l)) .normal (rgpM 10) (hppM (rM m0 m1 m2 m3 m4 m5 m6 (.fsl nb 2 rs none) m8 m9 m10) (l ++ b).length (rowsL (l ++ b)))) ∧
    (pL 111 rs = none → ∃ rg' σ', TripN Try.prog 4 (loopNo Try.f64 0) (rgpM 9) (hppM (rM m0 m1 m2 m3 m4 m5 m6 (.fsl nb 2 rs none) m8 m9 m10) l.length (rowsL l)) (.pan 117) rg' σ') := by
  have hlr : (rowsL l).length = l.length := List.length_map _
  have emx : mx 111 = 16 := rfl
  unfold pL
  by_cases hm : rs.length ≤ mx 111
  · rw [if_pos hm]
    rw [emx] at hm
    have hok : nOk (rs.length : Int) = true := decide_eq_true ⟨by omega, by omega⟩
    have h9 := vbl_len9 (n := rs.length) (by omega)
    have e1 : nRows (rs.length : Int) = rowsL (vbl rs.length) := by rw [nRows_rowsL, Int.toNat_natCast]
    obtain ⟨k1, k2⟩ := pM_list m0 m1 m2 m3 m4 m5 m6 m8 m9 m10 nb rs hr (by omega) 9 (l ++ vbl rs.length) (by rw [List.length_append]; omega)
    have eh : l.length + (nRows (rs.length : Int)).length = (l ++ vbl rs.length).length := by rw [e1, List.length_append, List.length_map]
    have eb : rowsL l ++ nRows (rs.length : Int) = rowsL (l ++ vbl rs.length) := by rw [e1, rowsL_append]
    cases hs : seqO (fun k => putR 111 (rs.getD k [])) rs.length 0 with
    | some b =>
      refine ⟨fun b' hb' => ?_, fun h => by cases h⟩
      cases hb'
      refine TripN.wp (pMN_wp m0 m1 m2 m3 m4 m5 m6 m8 m9 m10 nb rs l.length (l ++ (vbl rs.length ++ b)).length (rowsL l) (rowsL (l ++ (vbl rs.length ++ b))) ?_)
      unfold pMN_T
      rw [eh, eb]
      have q := k1 b hs
      rw [List.append_assoc] at q
      exact ⟨fun _ => ⟨fun _ => ⟨q, by trivial, by trivial, by trivial⟩, fun c => absurd c.1 (by rw [hok]; simp), .inl ⟨hok, hlr.symm, by omega⟩⟩, fun c => absurd (of_decide_eq_false c) (by omega), .inl (decide_eq_true (by omega))⟩
    | none =>
      refine ⟨fun b' hb' => (by cases hb'), fun _ => TripN.wpE (pMNn_wp m0 m1 m2 m3 m4 m5 m6 m8 m9 m10 nb rs l.length (rowsL l) ?_)⟩
      unfold pMNn_T
      rw [eh, eb]
      exact ⟨fun _ => ⟨fun _ => ⟨k2 hs, by trivial⟩, fun c => absurd c.1 (by rw [hok]; simp), .inl ⟨hok, hlr.symm, by omega⟩⟩, fun c => absurd (of_decide_eq_false c) (by omega), .inl (decide_eq_true (by omega))⟩
  · rw [if_neg hm]
    rw [emx] at hm
    refine ⟨fun b' hb' => (by cases hb'), fun _ => TripN.wpE (pMNn_wp m0 m1 m2 m3 m4 m5 m6 m8 m9 m10 nb rs l.length (rowsL l) ?_)⟩
    unfold pMNn_T
    exact ⟨fun c => absurd (of_decide_eq_true c) (by omega), fun _ => by trivial, .inr (decide_eq_false (by omega))⟩
theorem tMN_r (m0 m1 m2 m3 m4 m5 m6 m8 : Int) (m9 : Bool) (m10 s : ByteArray) :
    (∀ x, tL 111 s = some x → TripN Try.prog 3 (loopNo Try.f60 0) (rgtM 9) (hptM (rM m0 m1 m2 m3 m4 m5 m6 (.fsl true 0 [] (some 0)) m8 m9 m10) s) .normal (rgtM 10) (hptM (rM m0 m1 m2 m3 m4 m5 m6 (listV x.1) m8 m9 m10) x.2)) ∧
    (tL 111 s = none → ∃ rg' σ', TripN Try.prog 3 (loopNo Try.f60 0) (rgtM 9) (hptM (rM m0 m1 m2 m3 m4 m5 m6 (.fsl true 0 [] (some 0)) m8 m9 m10) s) (.pan 117) rg' σ') := by
  have emx : ((mx 111 : Nat) : Int) = 16 := rfl
  unfold tL tI
  rw [emx]
  cases ho : tkOk s 16 with
  | true =>
    rw [if_pos rfl]
    have hv := (of_decide_eq_true ho).2
    have hv : tkV s ≤ 16 := hv
    have h0 := tkV0 s
    have en : (((tkV s).toNat : Nat) : Int) = tkV s := Int.toNat_of_nonneg h0
    obtain ⟨k1, k2⟩ := tM_list m0 m1 m2 m3 m4 m5 m6 m8 m9 m10 9 (tkV s).toNat (by omega) (tkR s)
    rw [en] at k1 k2
    dsimp only
    refine ⟨fun x hx => ?_, fun hx => ?_⟩
    · refine TripN.wp (tMN_wp m0 m1 m2 m3 m4 m5 m6 m8 m9 m10 (listV x.1) s x.2 ?_)
      unfold tMN_T
      exact ⟨fun _ => ⟨k1 x hx, by trivial, by trivial, by trivial⟩, fun c => absurd c (by rw [ho]; simp), .inl ho⟩
    · refine TripN.wpE (tMNn_wp m0 m1 m2 m3 m4 m5 m6 m8 m9 m10 s ?_)
      unfold tMNn_T
      exact ⟨fun _ => ⟨k2 hx, by trivial⟩, fun c => absurd c (by rw [ho]; simp), .inl ho⟩
  | false =>
    rw [if_neg (by simp)]
    refine ⟨fun x hx => (by cases hx), fun hx => ?_⟩
    refine TripN.wpE (tMNn_wp m0 m1 m2 m3 m4 m5 m6 m8 m9 m10 s ?_)
    unfold tMNn_T
    exact ⟨fun c => absurd c (by rw [ho]; simp), fun _ => by trivial, .inr ho⟩
end Go.L12
end

section
set_option linter.unusedVariables false
set_option linter.unusedSimpArgs false
set_option maxRecDepth 100000
namespace Go.L12
open Go Go.Abs Go.Proofs

def FM : List (Nat × Nat × Nat) := [(100, 0, 0), (100, 0, 1), (100, 0, 2), (100, 0, 3), (100, 0, 4), (100, 0, 5), (100, 0, 6), (100, 0, 8), (101, 0, 9), (111, 0, 7), (104, 0, 10)]
abbrev flMp : List (List AVal) := (flM 3)
abbrev flMt : List (List AVal) := (flM 2)
theorem pMI0_r (u0 : List AVal) (i j : Nat) (hi : i < 11) (hfl : asType Try.prog 20 [List.getD (List.getD flMp i []) 0 .any] = .iface 100 (.ptr 3 11 0 j)) (hj : j + 1 ≤ 11) (hk : oI (u0.getD j .any)) (l : List UInt8) (hl : l.length ≤ 35184372088832) :
    (∀ b, putF 100 (u0.getD j .any) = some b → TripN Try.prog 4 (loopNo Try.f64 0) (rgpM (i : Nat)) (hppM u0 l.length (rowsL l)) .normal (rgpM ((i + 1 : Nat) : Int)) (hppM u0 (l ++ b).length (rowsL (l ++ b)))) ∧ (putF 100 (u0.getD j .any) = none → ∃ rg' σ', TripN Try.prog 4 (loopNo Try.f64 0) (rgpM (i : Nat)) (hppM u0 l.length (rowsL l)) (.pan 117) rg' σ') := by
  have w1 : IntKind.wrap .i64 ((i : Int) + 1) = ((i + 1 : Nat) : Int) := by rw [wrapS (by omega) (by omega)]; omega
  have hlr : (rowsL l).length = l.length := List.length_map _
  obtain ⟨v, hn, hv1, hv2⟩ := hk
  rw [hn]
  refine ⟨fun b hb => TripN.wp (pMI0_wp u0 i j l.length (rowsL l) ?_), fun hb => TripN.wpE (pMI0_wp u0 i j l.length (rowsL l) ?_)⟩
  · unfold pMI0_T
    rw [Int.toNat_natCast, w1, hn]
    simp only [AVal.toInt]
    have hb : pI v = some b := hb
    unfold pI at hb
    split at hb
    · rename_i ho
      cases hb
      refine ⟨decide_eq_true (by omega), decide_eq_true (by omega), decide_eq_true (by omega), hfl, rfl, decide_eq_true (by omega), fun _ => ⟨by trivial, by first | rfl | trivial, ?_⟩, fun c => absurd c.1 (by rw [ho]; simp), .inl ⟨ho, hlr.symm, by rw [hlr]; omega⟩⟩
      rw [nRows_rowsL, rowsL_append, List.length_append, List.length_map]
    · cases hb
  · unfold pMI0_T
    rw [Int.toNat_natCast, w1, hn]
    simp only [AVal.toInt]
    have hb : pI v = none := hb
    unfold pI at hb
    split at hb
    · cases hb
    · rename_i ho
      have ho : nOk v = false := by simpa using ho
      exact ⟨decide_eq_true (by omega), decide_eq_true (by omega), decide_eq_true (by omega), hfl, rfl, decide_eq_true (by omega), fun c => absurd c.1 (by rw [ho]; simp), fun _ => by trivial, .inr ⟨ho, hv2⟩⟩

theorem pMB0_r (u0 : List AVal) (i j : Nat) (hi : i < 11) (hfl : asType Try.prog 20 [List.getD (List.getD flMp i []) 0 .any] = .iface 101 (.ptr 3 11 0 j)) (hj : j + 1 ≤ 11) (hk : (∃ b, u0.getD j .any = .bool b)) (l : List UInt8) (hl : l.length ≤ 35184372088832) :
    (∀ b, putF 101 (u0.getD j .any) = some b → TripN Try.prog 4 (loopNo Try.f64 0) (rgpM (i : Nat)) (hppM u0 l.length (rowsL l)) .normal (rgpM ((i + 1 : Nat) : Int)) (hppM u0 (l ++ b).length (rowsL (l ++ b)))) ∧ (putF 101 (u0.getD j .any) = none → ∃ rg' σ', TripN Try.prog 4 (loopNo Try.f64 0) (rgpM (i : Nat)) (hppM u0 l.length (rowsL l)) (.pan 117) rg' σ') := by
  have w1 : IntKind.wrap .i64 ((i : Int) + 1) = ((i + 1 : Nat) : Int) := by rw [wrapS (by omega) (by omega)]; omega
  have hlr : (rowsL l).length = l.length := List.length_map _
  obtain ⟨v, hn⟩ := hk
  rw [hn]
  have num1 := fun (n : Int) (x : UInt8) (hx : (x.toNat : Int) = n) (h : 0 ≤ n ∧ n < 2) => by
    have h1 := num_ok n (rowsL l) l.length (decide_eq_true (by omega)) hlr.symm (by rw [hlr]; omega)
    rw [show nRows n = [[.int .u8 n]] by rw [nRows_rowsL, vbl_lt (by omega)]; simp [brow]; omega] at h1
    exact h1
  refine ⟨fun b hb => TripN.wp (pMB0_wp u0 i j l.length (rowsL l) ?_), fun hb => by cases hb⟩
  unfold pMB0_T
  rw [Int.toNat_natCast, w1, hn]
  simp only [AVal.toBool]
  cases hb
  cases v with
  | true =>
    refine ⟨decide_eq_true (by omega), decide_eq_true (by omega), decide_eq_true (by omega), hfl, rfl, decide_eq_true (by omega), fun _ => ⟨num1 1 1 rfl (by omega), by trivial, by first | rfl | trivial, ?_⟩, fun c => by cases c⟩
    rw [List.length_append]; simp [AVal.toBool, brow]
  | false =>
    refine ⟨decide_eq_true (by omega), decide_eq_true (by omega), decide_eq_true (by omega), hfl, rfl, decide_eq_true (by omega), fun c => (by cases c), fun _ => ⟨num1 0 0 rfl (by omega), by trivial, by first | rfl | trivial, ?_⟩⟩
    rw [List.length_append]; simp [AVal.toBool, brow]

theorem pMS0_r (u0 : List AVal) (i j : Nat) (hi : i < 11) (hfl : asType Try.prog 20 [List.getD (List.getD flMp i []) 0 .any] = .iface 104 (.ptr 3 11 0 j)) (hj : j + 1 ≤ 11) (hk : (∃ s, u0.getD j .any = .str s)) (l : List UInt8) (hl : l.length ≤ 35184372088832) :
    (∀ b, putF 104 (u0.getD j .any) = some b → TripN Try.prog 4 (loopNo Try.f64 0) (rgpM (i : Nat)) (hppM u0 l.length (rowsL l)) .normal (rgpM ((i + 1 : Nat) : Int)) (hppM u0 (l ++ b).length (rowsL (l ++ b)))) ∧ (putF 104 (u0.getD j .any) = none → ∃ rg' σ', TripN Try.prog 4 (loopNo Try.f64 0) (rgpM (i : Nat)) (hppM u0 l.length (rowsL l)) (.pan 117) rg' σ') := by
  have w1 : IntKind.wrap .i64 ((i : Int) + 1) = ((i + 1 : Nat) : Int) := by rw [wrapS (by omega) (by omega)]; omega
  have hlr : (rowsL l).length = l.length := List.length_map _
  obtain ⟨v, hn⟩ := hk
  rw [hn]
  refine ⟨fun b hb => TripN.wp (pMS0_wp u0 i j l.length (rowsL l) ?_), fun hb => TripN.wpE (pMS0_wp u0 i j l.length (rowsL l) ?_)⟩
  · unfold pMS0_T
    rw [Int.toNat_natCast, w1, hn]
    simp only [AVal.toStr]
    have hb : pS v = some b := hb
    unfold pS at hb
    split at hb
    · rename_i ho
      cases hb
      have h9 := nRows_len (n := (v.size : Int)) (by omega)
      have hok : nOk (v.size : Int) = true := decide_eq_true ⟨by omega, by omega⟩
      refine ⟨decide_eq_true (by omega), decide_eq_true (by omega), decide_eq_true (by omega), hfl, rfl, decide_eq_true (by omega), fun _ => ⟨fun _ => ⟨by rw [List.length_append, hlr], ho, by rw [List.length_append, hlr]; omega, by trivial, by first | rfl | trivial, ?_⟩, fun c => absurd c.1 (by rw [hok]; simp), .inl ⟨hok, hlr.symm, by rw [hlr]; omega⟩⟩, fun c => absurd (of_decide_eq_false c) (by omega), .inl (decide_eq_true (by omega))⟩
      rw [nRows_rowsL, byteRows_rowsL, rowsL_append, rowsL_append, List.length_map, List.length_map, Int.toNat_natCast, List.length_append, List.length_append, List.append_assoc, Nat.add_assoc]
    · cases hb
  · unfold pMS0_T
    rw [Int.toNat_natCast, w1, hn]
    simp only [AVal.toStr]
    have hb : pS v = none := hb
    unfold pS at hb
    split at hb
    · cases hb
    · rename_i ho
      exact ⟨decide_eq_true (by omega), decide_eq_true (by omega), decide_eq_true (by omega), hfl, rfl, decide_eq_true (by omega), fun c => absurd (of_decide_eq_true c) (by omega), fun _ => by trivial, .inr (decide_eq_false (by omega))⟩

def objM (u0 : List AVal) (o : Nat) : List AVal := u0
def fpM (u0 : List AVal) (i : Nat) : Option (List UInt8) := putF (FM.getD i (0, 0, 0)).1 ((objM u0 (FM.getD i (0, 0, 0)).2.1).getD (FM.getD i (0, 0, 0)).2.2 .any)
def bdM (m0 m1 m2 m3 m4 m5 m6 m8 : Int) : Prop := (-9223372036854775808 ≤ m0 ∧ m0 < 9223372036854775808) ∧ (-9223372036854775808 ≤ m1 ∧ m1 < 9223372036854775808) ∧ (-9223372036854775808 ≤ m2 ∧ m2 < 9223372036854775808) ∧ (-9223372036854775808 ≤ m3 ∧ m3 < 9223372036854775808) ∧ (-9223372036854775808 ≤ m4 ∧ m4 < 9223372036854775808) ∧ (-9223372036854775808 ≤ m5 ∧ m5 < 9223372036854775808) ∧ (-9223372036854775808 ≤ m6 ∧ m6 < 9223372036854775808) ∧ (-9223372036854775808 ≤ m8 ∧ m8 < 9223372036854775808)
def kM (m0 m1 m2 m3 m4 m5 m6 m8 : Int) (rs : List (List AVal)) : Prop := bdM m0 m1 m2 m3 m4 m5 m6 m8 ∧ (∀ q, q < rs.length → rowK 111 rs q) ∧ rs.length < 4611686018427387904
theorem pM_round (m0 m1 m2 m3 m4 m5 m6 m8 : Int) (m9 : Bool) (m10 : ByteArray) (nb : Bool) (rs : List (List AVal)) (hk : kM m0 m1 m2 m3 m4 m5 m6 m8 rs) : ∀ i, i < 11 → ∀ l : List UInt8, l.length ≤ 17592186044416 + i * 40000000 → (∀ b, fpM (rM m0 m1 m2 m3 m4 m5 m6 (.fsl nb 2 rs none) m8 m9 m10) i = some b → TripN Try.prog 4 (loopNo Try.f64 0) (rgpM (i : Nat)) (hppM (rM m0 m1 m2 m3 m4 m5 m6 (.fsl nb 2 rs none) m8 m9 m10) l.length (rowsL l)) .normal (rgpM ((i + 1 : Nat) : Int)) (hppM (rM m0 m1 m2 m3 m4 m5 m6 (.fsl nb 2 rs none) m8 m9 m10) (l ++ b).length (rowsL (l ++ b)))) ∧ (fpM (rM m0 m1 m2 m3 m4 m5 m6 (.fsl nb 2 rs none) m8 m9 m10) i = none → ∃ rg' σ', TripN Try.prog 4 (loopNo Try.f64 0) (rgpM (i : Nat)) (hppM (rM m0 m1 m2 m3 m4 m5 m6 (.fsl nb 2 rs none) m8 m9 m10) l.length (rowsL l)) (.pan 117) rg' σ')
  | 0, hi, l, hl => pMI0_r (rM m0 m1 m2 m3 m4 m5 m6 (.fsl nb 2 rs none) m8 m9 m10) 0 0 hi (by kernel_rfl) (by omega) ⟨_, rfl, hk.1.1⟩ l (by omega)
  | 1, hi, l, hl => pMI0_r (rM m0 m1 m2 m3 m4 m5 m6 (.fsl nb 2 rs none) m8 m9 m10) 1 1 hi (by kernel_rfl) (by omega) ⟨_, rfl, hk.1.2.1⟩ l (by omega)
  | 2, hi, l, hl => pMI0_r (rM m0 m1 m2 m3 m4 m5 m6 (.fsl nb 2 rs none) m8 m9 m10) 2 2 hi (by kernel_rfl) (by omega) ⟨_, rfl, hk.1.2.2.1⟩ l (by omega)
  | 3, hi, l, hl => pMI0_r (rM m0 m1 m2 m3 m4 m5 m6 (.fsl nb 2 rs none) m8 m9 m10) 3 3 hi (by kernel_rfl) (by omega) ⟨_, rfl, hk.1.2.2.2.1⟩ l (by omega)
  | 4, hi, l, hl => pMI0_r (rM m0 m1 m2 m3 m4 m5 m6 (.fsl nb 2 rs none) m8 m9 m10) 4 4 hi (by kernel_rfl) (by omega) ⟨_, rfl, hk.1.2.2.2.2.1⟩ l (by omega)
  | 5, hi, l, hl => pMI0_r (rM m0 m1 m2 m3 m4 m5 m6 (.fsl nb 2 rs none) m8 m9 m10) 5 5 hi (by kernel_rfl) (by omega) ⟨_, rfl, hk.1.2.2.2.2.2.1⟩ l (by omega)
  | 6, hi, l, hl => pMI0_r (rM m0 m1 m2 m3 m4 m5 m6 (.fsl nb 2 rs none) m8 m9 m10) 6 6 hi (by kernel_rfl) (by omega) ⟨_, rfl, hk.1.2.2.2.2.2.2.1⟩ l (by omega)
  | 7, hi, l, hl => pMI0_r (rM m0 m1 m2 m3 m4 m5 m6 (.fsl nb 2 rs none) m8 m9 m10) 7 8 hi (by kernel_rfl) (by omega) ⟨_, rfl, hk.1.2.2.2.2.2.2.2⟩ l (by omega)
  | 8, hi, l, hl => pMB0_r (rM m0 m1 m2 m3 m4 m5 m6 (.fsl nb 2 rs none) m8 m9 m10) 8 9 hi (by kernel_rfl) (by omega) ⟨_, rfl⟩ l (by omega)
  | 9, hi, l, hl => pMN_r m0 m1 m2 m3 m4 m5 m6 m8 m9 m10 nb rs hk.2.1 hk.2.2 l (by omega)
  | 10, hi, l, hl => pMS0_r (rM m0 m1 m2 m3 m4 m5 m6 (.fsl nb 2 rs none) m8 m9 m10) 10 10 hi (by kernel_rfl) (by omega) ⟨_, rfl⟩ l (by omega)
  | n + 11, hi, l, hl => absurd hi (by omega)
theorem putsM_ok (m0 m1 m2 m3 m4 m5 m6 m8 : Int) (m9 : Bool) (m10 : ByteArray) (nb : Bool) (rs : List (List AVal)) (hk : kM m0 m1 m2 m3 m4 m5 m6 m8 rs) (l b : List UInt8) (hl : l.length ≤ 17592186044416) (hb : seqO (fpM (rM m0 m1 m2 m3 m4 m5 m6 (.fsl nb 2 rs none) m8 m9 m10)) 11 0 = some b) :
    FOk Try.prog 64 [.ptr 0 2 0 0, .slc false 1 1 0 11 none] [.rows false 2 [[.ptr 0 2 0 0, .slc false 2 1 0 l.length none]], .rows false 1 flMp, .trows 5 true 1 (rowsL l), .rows true 11 [(rM m0 m1 m2 m3 m4 m5 m6 (.fsl nb 2 rs none) m8 m9 m10)]] (.tuple []) [.rows false 2 [[.ptr 0 2 0 0, .slc false 4 1 0 (l ++ b).length none]], .rows false 1 flMp, .dead, .rows true 11 [(rM m0 m1 m2 m3 m4 m5 m6 (.fsl nb 2 rs none) m8 m9 m10)], .trows 5 true 1 (rowsL (l ++ b))] := by
  have r := (puts_run (c := loopNo Try.f64 0) 11 (fun i => rgpM (i : Nat)) (fun l => hppM (rM m0 m1 m2 m3 m4 m5 m6 (.fsl nb 2 rs none) m8 m9 m10) l.length (rowsL l)) (fpM (rM m0 m1 m2 m3 m4 m5 m6 (.fsl nb 2 rs none) m8 m9 m10)) 17592186044416 40000000 0 (fun i b h => putF_len h) (fun l => TripN.wp (pMX_wp (rM m0 m1 m2 m3 m4 m5 m6 (.fsl nb 2 rs none) m8 m9 m10) 11 l.length (rowsL l) ⟨by kernel_rfl, rfl, rfl, rfl⟩)) (pM_round m0 m1 m2 m3 m4 m5 m6 m8 m9 m10 nb rs hk) 11 0 (by omega) l (by omega)).1 b hb
  exact (evalF_ok followed Try.func64 (by kernel_rfl) (show evalF Try.prog Try.f64 [.ptr 0 2 0 0, .slc false 1 1 0 11 none] [.rows false 2 [[.ptr 0 2 0 0, .slc false 2 1 0 l.length none]], .rows false 1 flMp, .trows 5 true 1 (rowsL l), .rows true 11 [(rM m0 m1 m2 m3 m4 m5 m6 (.fsl nb 2 rs none) m8 m9 m10)]] [Dec.lift 2, Dec.compact (keepM 148 [0, 15, 16, 17]) [0, 1, 2, 3, 4], Dec.loop (.exit 0) (rgpM 11) (hppM (rM m0 m1 m2 m3 m4 m5 m6 (.fsl nb 2 rs none) m8 m9 m10) (l ++ b).length (rowsL (l ++ b)))] = .ok (FRes.mk (.tuple []) (hppM (rM m0 m1 m2 m3 m4 m5 m6 (.fsl nb 2 rs none) m8 m9 m10) (l ++ b).length (rowsL (l ++ b))) [(owed Try.prog 4).loop (loopNo Try.f64 0) (rgpM 0) (hppM (rM m0 m1 m2 m3 m4 m5 m6 (.fsl nb 2 rs none) m8 m9 m10) l.length (rowsL l)) (.exit 0) (rgpM 11) (hppM (rM m0 m1 m2 m3 m4 m5 m6 (.fsl nb 2 rs none) m8 m9 m10) (l ++ b).length (rowsL (l ++ b)))]) by kernel_rfl) (allP_of ⟨r.trip, trivial⟩)).move [0, 1, 2, 3, 4] (by kernel_rfl) (by kernel_rfl) (by kernel_rfl)
theorem tMI0_r (u0 : List AVal) (i j : Nat) (hi : i < 11) (hfl : asType Try.prog 20 [List.getD (List.getD flMt i []) 0 .any] = .iface 100 (.ptr 2 11 0 j)) (hj : j + 1 ≤ 11) (s : ByteArray) :
    (∀ x, takeF 100 s = some x → TripN Try.prog 3 (loopNo Try.f60 0) (rgtM (i : Nat)) (hptM u0 s) .normal (rgtM ((i + 1 : Nat) : Int)) (hptM (u0.set j x.1) x.2)) ∧ (takeF 100 s = none → ∃ rg' σ', TripN Try.prog 3 (loopNo Try.f60 0) (rgtM (i : Nat)) (hptM u0 s) (.pan 117) rg' σ') := by
  have w1 : IntKind.wrap .i64 ((i : Int) + 1) = ((i + 1 : Nat) : Int) := by rw [wrapS (by omega) (by omega)]; omega
  have h0 : 0 ≤ tkV s := Int.natCast_nonneg _
  have e : takeF 100 s = (tI 1099511627776 s).map fun x => (.int .i64 x.1, x.2) := rfl
  rw [e]
  unfold tI
  cases ho : tkOk s 1099511627776 with
  | true =>
    refine ⟨fun x hx => ?_, fun h => by cases h⟩
    cases hx
    refine TripN.wp (tMI0_wp u0 i j s ?_)
    unfold tMI0_T
    rw [Int.toNat_natCast, w1]
    exact ⟨decide_eq_true (by omega), decide_eq_true (by omega), decide_eq_true (by omega), hfl, fun _ => ⟨decide_eq_true (by omega), rfl, rfl, rfl⟩, fun c => absurd c (by rw [ho]; simp), .inl ho⟩
  | false =>
    refine ⟨fun x hx => (by cases hx), fun h => TripN.wpE (tMI0_wp u0 i j s ?_)⟩
    unfold tMI0_T
    rw [Int.toNat_natCast, w1]
    exact ⟨decide_eq_true (by omega), decide_eq_true (by omega), decide_eq_true (by omega), hfl, fun c => absurd c (by rw [ho]; simp), fun _ => rfl, .inr ho⟩

theorem tMB0_r (u0 : List AVal) (i j : Nat) (hi : i < 11) (hfl : asType Try.prog 20 [List.getD (List.getD flMt i []) 0 .any] = .iface 101 (.ptr 2 11 0 j)) (hj : j + 1 ≤ 11) (s : ByteArray) :
    (∀ x, takeF 101 s = some x → TripN Try.prog 3 (loopNo Try.f60 0) (rgtM (i : Nat)) (hptM u0 s) .normal (rgtM ((i + 1 : Nat) : Int)) (hptM (u0.set j x.1) x.2)) ∧ (takeF 101 s = none → ∃ rg' σ', TripN Try.prog 3 (loopNo Try.f60 0) (rgtM (i : Nat)) (hptM u0 s) (.pan 117) rg' σ') := by
  have w1 : IntKind.wrap .i64 ((i : Int) + 1) = ((i + 1 : Nat) : Int) := by rw [wrapS (by omega) (by omega)]; omega
  have h0 : 0 ≤ tkV s := Int.natCast_nonneg _
  have e : takeF 101 s = (tB s).map fun x => (.bool x.1, x.2) := rfl
  rw [e]
  unfold tB
  cases ho : tkOk s 1 with
  | true =>
    refine ⟨fun x hx => ?_, fun h => by cases h⟩
    cases hx
    refine TripN.wp (tMB0_wp u0 i j s ?_)
    unfold tMB0_T
    rw [Int.toNat_natCast, w1]
    exact ⟨decide_eq_true (by omega), decide_eq_true (by omega), decide_eq_true (by omega), hfl, fun _ => ⟨decide_eq_true (by omega), rfl, rfl, rfl⟩, fun c => absurd c (by rw [ho]; simp), .inl ho⟩
  | false =>
    refine ⟨fun x hx => (by cases hx), fun h => TripN.wpE (tMB0_wp u0 i j s ?_)⟩
    unfold tMB0_T
    rw [Int.toNat_natCast, w1]
    exact ⟨decide_eq_true (by omega), decide_eq_true (by omega), decide_eq_true (by omega), hfl, fun c => absurd c (by rw [ho]; simp), fun _ => rfl, .inr ho⟩

theorem tMS0_r (u0 : List AVal) (i j : Nat) (hi : i < 11) (hfl : asType Try.prog 20 [List.getD (List.getD flMt i []) 0 .any] = .iface 104 (.ptr 2 11 0 j)) (hj : j + 1 ≤ 11) (s : ByteArray) :
    (∀ x, takeF 104 s = some x → TripN Try.prog 3 (loopNo Try.f60 0) (rgtM (i : Nat)) (hptM u0 s) .normal (rgtM ((i + 1 : Nat) : Int)) (hptM (u0.set j x.1) x.2)) ∧ (takeF 104 s = none → ∃ rg' σ', TripN Try.prog 3 (loopNo Try.f60 0) (rgtM (i : Nat)) (hptM u0 s) (.pan 117) rg' σ') := by
  have w1 : IntKind.wrap .i64 ((i : Int) + 1) = ((i + 1 : Nat) : Int) := by rw [wrapS (by omega) (by omega)]; omega
  have h0 : 0 ≤ tkV s := Int.natCast_nonneg _
  have e : takeF 104 s = (tS s).map fun x => (.str x.1, x.2) := rfl
  rw [e]
  unfold tS
  cases ho : tkOk s 262144 with
  | true =>
    rw [if_pos rfl]
    by_cases hv : tkV s ≤ ((tkR s).size : Int)
    · rw [if_pos hv]
      refine ⟨fun x hx => ?_, fun h => by cases h⟩
      cases hx
      refine TripN.wp (tMS0_wp u0 i j s ?_)
      unfold tMS0_T
      rw [Int.toNat_natCast, Int.toNat_natCast, w1]
      exact ⟨decide_eq_true (by omega), decide_eq_true (by omega), decide_eq_true (by omega), hfl, fun _ => ⟨fun _ => ⟨decide_eq_true (by omega), decide_eq_true (by omega), decide_eq_true (by omega), rfl, rfl, rfl⟩, fun c => absurd (of_decide_eq_false c) (by omega), .inl (decide_eq_true hv)⟩, fun c => absurd c (by rw [ho]; simp), .inl ho⟩
    · rw [if_neg hv]
      refine ⟨fun x hx => (by cases hx), fun h => TripN.wpE (tMS0_wp u0 i j s ?_)⟩
      unfold tMS0_T
      rw [Int.toNat_natCast, Int.toNat_natCast, w1]
      exact ⟨decide_eq_true (by omega), decide_eq_true (by omega), decide_eq_true (by omega), hfl, fun _ => ⟨fun c => absurd (of_decide_eq_true c) (by omega), fun _ => rfl, .inr (decide_eq_false hv)⟩, fun c => absurd c (by rw [ho]; simp), .inl ho⟩
  | false =>
    refine ⟨fun x hx => (by cases hx), fun h => TripN.wpE (tMS0_wp u0 i j s ?_)⟩
    unfold tMS0_T
    rw [Int.toNat_natCast, Int.toNat_natCast, w1]
    exact ⟨decide_eq_true (by omega), decide_eq_true (by omega), decide_eq_true (by omega), hfl, fun c => absurd c (by rw [ho]; simp), fun _ => rfl, .inr ho⟩

def gtM (i : Nat) (u : List AVal) (s : ByteArray) : Option ((List AVal) × ByteArray) := (takeF (FM.getD i (0, 0, 0)).1 s).map fun x => (u.set (FM.getD i (0, 0, 0)).2.2 x.1, x.2)
def ivM (i : Nat) (u : List AVal) : Prop := ∃ (m0 m1 m2 m3 m4 m5 m6 : Int) (v : AVal) (m8 : Int) (m9 : Bool) (m10 : ByteArray), u = rM m0 m1 m2 m3 m4 m5 m6 v m8 m9 m10 ∧ (i ≤ 9 → v = .fsl true 0 [] (some 0))
theorem takeF_I {t : Nat} (ht : t = 100 ∨ t = 102) {s : ByteArray} {x : AVal × ByteArray} (h : takeF t s = some x) : ∃ n, x.1 = .int .i64 n := by
  have h : (tI 1099511627776 s).map (fun x => ((AVal.int .i64 x.1), x.2)) = some x := by rcases ht with rfl | rfl <;> exact h
  rw [Option.map_eq_some_iff] at h
  obtain ⟨y, _, rfl⟩ := h
  exact ⟨_, rfl⟩
theorem takeF_B {s : ByteArray} {x : AVal × ByteArray} (h : takeF 101 s = some x) : ∃ n, x.1 = .bool n := by
  have h : (tB s).map (fun x => ((AVal.bool x.1), x.2)) = some x := h
  rw [Option.map_eq_some_iff] at h
  obtain ⟨y, _, rfl⟩ := h
  exact ⟨_, rfl⟩
theorem takeF_S {s : ByteArray} {x : AVal × ByteArray} (h : takeF 104 s = some x) : ∃ n, x.1 = .str n := by
  have h : (tS s).map (fun x => ((AVal.str x.1), x.2)) = some x := h
  rw [Option.map_eq_some_iff] at h
  obtain ⟨y, _, rfl⟩ := h
  exact ⟨_, rfl⟩
theorem tM_round : ∀ i, i < 11 → ∀ (u : List AVal) (s : ByteArray), ivM i u → (∀ x, gtM i u s = some x → ivM (i + 1) x.1 ∧ TripN Try.prog 3 (loopNo Try.f60 0) (rgtM (i : Nat)) (hptM u s) .normal (rgtM ((i + 1 : Nat) : Int)) (hptM x.1 x.2)) ∧ (gtM i u s = none → ∃ rg' σ', TripN Try.prog 3 (loopNo Try.f60 0) (rgtM (i : Nat)) (hptM u s) (.pan 117) rg' σ')
  | 0, hi, u, s, hI => by
    obtain ⟨h1, h2⟩ := tMI0_r u 0 0 hi (by kernel_rfl) (by omega) s
    have e : gtM 0 u s = (takeF 100 s).map fun x => (u.set 0 x.1, x.2) := rfl
    rw [e]
    cases ht : takeF 100 s with
    | none => exact ⟨fun x hx => (by cases hx), fun _ => h2 ht⟩
    | some x =>
      refine ⟨fun y hy => ?_, fun h => by cases h⟩
      cases hy
      refine ⟨?_, h1 x ht⟩
      obtain ⟨m0, m1, m2, m3, m4, m5, m6, v, m8, m9, m10, rfl, hv⟩ := hI
      obtain ⟨z, hz⟩ := takeF_I (.inl rfl) ht
      refine ⟨z, m1, m2, m3, m4, m5, m6, v, m8, m9, m10, ?_, fun h => hv (by omega)⟩
      dsimp only
      rw [hz]; rfl
  | 1, hi, u, s, hI => by
    obtain ⟨h1, h2⟩ := tMI0_r u 1 1 hi (by kernel_rfl) (by omega) s
    have e : gtM 1 u s = (takeF 100 s).map fun x => (u.set 1 x.1, x.2) := rfl
    rw [e]
    cases ht : takeF 100 s with
    | none => exact ⟨fun x hx => (by cases hx), fun _ => h2 ht⟩
    | some x =>
      refine ⟨fun y hy => ?_, fun h => by cases h⟩
      cases hy
      refine ⟨?_, h1 x ht⟩
      obtain ⟨m0, m1, m2, m3, m4, m5, m6, v, m8, m9, m10, rfl, hv⟩ := hI
      obtain ⟨z, hz⟩ := takeF_I (.inl rfl) ht
      refine ⟨m0, z, m2, m3, m4, m5, m6, v, m8, m9, m10, ?_, fun h => hv (by omega)⟩
      dsimp only
      rw [hz]; rfl
  | 2, hi, u, s, hI => by
    obtain ⟨h1, h2⟩ := tMI0_r u 2 2 hi (by kernel_rfl) (by omega) s
    have e : gtM 2 u s = (takeF 100 s).map fun x => (u.set 2 x.1, x.2) := rfl
    rw [e]
    cases ht : takeF 100 s with
    | none => exact ⟨fun x hx => (by cases hx), fun _ => h2 ht⟩
    | some x =>
      refine ⟨fun y hy => ?_, fun h => by cases h⟩
      cases hy
      refine ⟨?_, h1 x ht⟩
      obtain ⟨m0, m1, m2, m3, m4, m5, m6, v, m8, m9, m10, rfl, hv⟩ := hI
      obtain ⟨z, hz⟩ := takeF_I (.inl rfl) ht
      refine ⟨m0, m1, z, m3, m4, m5, m6, v, m8, m9, m10, ?_, fun h => hv (by omega)⟩
      dsimp only
      rw [hz]; rfl
  | 3, hi, u, s, hI => by
    obtain ⟨h1, h2⟩ := tMI0_r u 3 3 hi (by kernel_rfl) (by omega) s
    have e : gtM 3 u s = (takeF 100 s).map fun x => (u.set 3 x.1, x.2) := rfl
    rw [e]
    cases ht : takeF 100 s with
    | none => exact ⟨fun x hx => (by cases hx), fun _ => h2 ht⟩
    | some x =>
      refine ⟨fun y hy => ?_, fun h => by cases h⟩
      cases hy
      refine ⟨?_, h1 x ht⟩
      obtain ⟨m0, m1, m2, m3, m4, m5, m6, v, m8, m9, m10, rfl, hv⟩ := hI
      obtain ⟨z, hz⟩ := takeF_I (.inl rfl) ht
      refine ⟨m0, m1, m2, z, m4, m5, m6, v, m8, m9, m10, ?_, fun h => hv (by omega)⟩
      dsimp only
      rw [hz]; rfl
  | 4, hi, u, s, hI => by
    obtain ⟨h1, h2⟩ := tMI0_r u 4 4 hi (by kernel_rfl) (by omega) s
    have e : gtM 4 u s = (takeF 100 s).map fun x => (u.set 4 x.1, x.2) := rfl
    rw [e]
    cases ht : takeF 100 s with
    | none => exact ⟨fun x hx => (by cases hx), fun _ => h2 ht⟩
    | some x =>
      refine ⟨fun y hy => ?_, fun h => by cases h⟩
      cases hy
      refine ⟨?_, h1 x ht⟩
      obtain ⟨m0, m1, m2, m3, m4, m5, m6, v, m8, m9, m10, rfl, hv⟩ := hI
      obtain ⟨z, hz⟩ := takeF_I (.inl rfl) ht
      refine ⟨m0, m1, m2, m3, z, m5, m6, v, m8, m9, m10, ?_, fun h => hv (by omega)⟩
      dsimp only
      rw [hz]; rfl
  | 5, hi, u, s, hI => by
    obtain ⟨h1, h2⟩ := tMI0_r u 5 5 hi (by kernel_rfl) (by omega) s
    have e : gtM 5 u s = (takeF 100 s).map fun x => (u.set 5 x.1, x.2) := rfl
    rw [e]
    cases ht : takeF 100 s with
    | none => exact ⟨fun x hx => (by cases hx), fun _ => h2 ht⟩
    | some x =>
      refine ⟨fun y hy => ?_, fun h => by cases h⟩
      cases hy
      refine ⟨?_, h1 x ht⟩
      obtain ⟨m0, m1, m2, m3, m4, m5, m6, v, m8, m9, m10, rfl, hv⟩ := hI
      obtain ⟨z, hz⟩ := takeF_I (.inl rfl) ht
      refine ⟨m0, m1, m2, m3, m4, z, m6, v, m8, m9, m10, ?_, fun h => hv (by omega)⟩
      dsimp only
      rw [hz]; rfl
  | 6, hi, u, s, hI => by
    obtain ⟨h1, h2⟩ := tMI0_r u 6 6 hi (by kernel_rfl) (by omega) s
    have e : gtM 6 u s = (takeF 100 s).map fun x => (u.set 6 x.1, x.2) := rfl
    rw [e]
    cases ht : takeF 100 s with
    | none => exact ⟨fun x hx => (by cases hx), fun _ => h2 ht⟩
    | some x =>
      refine ⟨fun y hy => ?_, fun h => by cases h⟩
      cases hy
      refine ⟨?_, h1 x ht⟩
      obtain ⟨m0, m1, m2, m3, m4, m5, m6, v, m8, m9, m10, rfl, hv⟩ := hI
      obtain ⟨z, hz⟩ := takeF_I (.inl rfl) ht
      refine ⟨m0, m1, m2, m3, m4, m5, z, v, m8, m9, m10, ?_, fun h => hv (by omega)⟩
      dsimp only
      rw [hz]; rfl
  | 7, hi, u, s, hI => by
    obtain ⟨h1, h2⟩ := tMI0_r u 7 8 hi (by kernel_rfl) (by omega) s
    have e : gtM 7 u s = (takeF 100 s).map fun x => (u.set 8 x.1, x.2) := rfl
    rw [e]
    cases ht : takeF 100 s with
    | none => exact ⟨fun x hx => (by cases hx), fun _ => h2 ht⟩
    | some x =>
      refine ⟨fun y hy => ?_, fun h => by cases h⟩
      cases hy
      refine ⟨?_, h1 x ht⟩
      obtain ⟨m0, m1, m2, m3, m4, m5, m6, v, m8, m9, m10, rfl, hv⟩ := hI
      obtain ⟨z, hz⟩ := takeF_I (.inl rfl) ht
      refine ⟨m0, m1, m2, m3, m4, m5, m6, v, z, m9, m10, ?_, fun h => hv (by omega)⟩
      dsimp only
      rw [hz]; rfl
  | 8, hi, u, s, hI => by
    obtain ⟨h1, h2⟩ := tMB0_r u 8 9 hi (by kernel_rfl) (by omega) s
    have e : gtM 8 u s = (takeF 101 s).map fun x => (u.set 9 x.1, x.2) := rfl
    rw [e]
    cases ht : takeF 101 s with
    | none => exact ⟨fun x hx => (by cases hx), fun _ => h2 ht⟩
    | some x =>
      refine ⟨fun y hy => ?_, fun h => by cases h⟩
      cases hy
      refine ⟨?_, h1 x ht⟩
      obtain ⟨m0, m1, m2, m3, m4, m5, m6, v, m8, m9, m10, rfl, hv⟩ := hI
      obtain ⟨z, hz⟩ := takeF_B ht
      refine ⟨m0, m1, m2, m3, m4, m5, m6, v, m8, z, m10, ?_, fun h => hv (by omega)⟩
      dsimp only
      rw [hz]; rfl
  | 9, hi, u, s, hI => by
    obtain ⟨m0, m1, m2, m3, m4, m5, m6, v, m8, m9, m10, rfl, hv⟩ := hI
    obtain rfl := hv (by omega)
    obtain ⟨h1, h2⟩ := tMN_r m0 m1 m2 m3 m4 m5 m6 m8 m9 m10 s
    have e : gtM 9 (rM m0 m1 m2 m3 m4 m5 m6 (.fsl true 0 [] (some 0)) m8 m9 m10) s = (tL 111 s).map fun x => (rM m0 m1 m2 m3 m4 m5 m6 (listV x.1) m8 m9 m10, x.2) := by
      show Option.map _ ((tL 111 s).map _) = _
      cases tL 111 s <;> rfl
    rw [e]
    cases ht : tL 111 s with
    | none => exact ⟨fun x hx => (by cases hx), fun _ => h2 ht⟩
    | some x => exact ⟨fun y hy => (by cases hy; exact ⟨⟨_, _, _, _, _, _, _, _, _, _, _, rfl, fun h => absurd h (by omega)⟩, h1 x ht⟩), fun h => by cases h⟩
  | 10, hi, u, s, hI => by
    obtain ⟨h1, h2⟩ := tMS0_r u 10 10 hi (by kernel_rfl) (by omega) s
    have e : gtM 10 u s = (takeF 104 s).map fun x => (u.set 10 x.1, x.2) := rfl
    rw [e]
    cases ht : takeF 104 s with
    | none => exact ⟨fun x hx => (by cases hx), fun _ => h2 ht⟩
    | some x =>
      refine ⟨fun y hy => ?_, fun h => by cases h⟩
      cases hy
      refine ⟨?_, h1 x ht⟩
      obtain ⟨m0, m1, m2, m3, m4, m5, m6, v, m8, m9, m10, rfl, hv⟩ := hI
      obtain ⟨z, hz⟩ := takeF_S ht
      refine ⟨m0, m1, m2, m3, m4, m5, m6, v, m8, m9, z, ?_, fun h => absurd h (by omega)⟩
      dsimp only
      rw [hz]; rfl
  | n + 11, hi, u, s, _ => absurd hi (by omega)
theorem takesM_ok (u : List AVal) (hI : ivM 0 u) (s : ByteArray) (x : (List AVal) × ByteArray) (hb : seqG gtM 11 0 u s = some x) :
    FOk Try.prog 60 [.ptr 0 1 0 0, .slc false 1 1 0 11 none] [.rows true 1 [[.str s]], .rows false 1 flMt, .rows true 11 [u]] (.tuple []) [.rows true 1 [[.str x.2]], .rows false 1 flMt, .rows true 11 [x.1]] := by
  have r := (takes_run (c := loopNo Try.f60 0) 11 (fun i => rgtM (i : Nat)) (fun (u : List AVal) s => hptM u s) gtM ivM 0 (fun u s _ => TripN.wp (tMX_wp u 11 s ⟨by kernel_rfl, rfl, rfl, rfl⟩)) tM_round 11 0 (by omega) u s hI).1 x hb
  exact (evalF_ok followed Try.func60 (by kernel_rfl) (show evalF Try.prog Try.f60 [.ptr 0 1 0 0, .slc false 1 1 0 11 none] [.rows true 1 [[.str s]], .rows false 1 flMt, .rows true 11 [u]] [Dec.compact (keepM 117 [0, 15, 16, 17]) [0, 1, 2], Dec.loop (.exit 0) (rgtM 11) (hptM x.1 x.2)] = .ok (FRes.mk (.tuple []) (hptM x.1 x.2) [(owed Try.prog 3).loop (loopNo Try.f60 0) (rgtM 0) (hptM u s) (.exit 0) (rgtM 11) (hptM x.1 x.2)]) by kernel_rfl) (allP_of ⟨r.trip, trivial⟩)).move [0, 1, 2] (by kernel_rfl) (by kernel_rfl) (by kernel_rfl)
theorem takesM_no (u : List AVal) (hI : ivM 0 u) (s : ByteArray) (hb : seqG gtM 11 0 u s = none) :
    FOk Try.prog 60 [.ptr 0 1 0 0, .slc false 1 1 0 11 none] [.rows true 1 [[.str s]], .rows false 1 flMt, .rows true 11 [u]] (.pan 117) [.dead, .dead, .dead] := by
  obtain ⟨rg', σ', r⟩ := (takes_run (c := loopNo Try.f60 0) 11 (fun i => rgtM (i : Nat)) (fun (u : List AVal) s => hptM u s) gtM ivM 0 (fun u s _ => TripN.wp (tMX_wp u 11 s ⟨by kernel_rfl, rfl, rfl, rfl⟩)) tM_round 11 0 (by omega) u s hI).2 hb
  exact (evalF_ok followed Try.func60 (by kernel_rfl) (show evalF Try.prog Try.f60 [.ptr 0 1 0 0, .slc false 1 1 0 11 none] [.rows true 1 [[.str s]], .rows false 1 flMt, .rows true 11 [u]] [Dec.compact (keepM 117 [0, 15, 16, 17]) [0, 1, 2], Dec.loop (.pan 117) rg' σ'] = .ok (FRes.mk (.pan 117) σ' [(owed Try.prog 3).loop (loopNo Try.f60 0) (rgtM 0) (hptM u s) (.pan 117) rg' σ']) by kernel_rfl) (allP_of ⟨r.trip, trivial⟩)).pan

end Go.L12
end

section
set_option linter.unusedVariables false
set_option maxRecDepth 100000
namespace Go.L12
open Go Go.Abs Go.Proofs

theorem rTM_1 (u0 : List AVal) (k k2 : Nat) (bs bs2 : List (List AVal))
    (h1 : FOk Try.prog 64 [AVal.ptr 0 2 0 0, AVal.slc false 1 1 0 11 none] [AObj.rows false 2 [[AVal.ptr 0 2 0 0, AVal.slc false 2 1 0 k none]], AObj.rows false 1 (flM 3), AObj.trows 5 true 1 bs, AObj.rows true 11 [u0]] (AVal.tuple []) [AObj.rows false 2 [[AVal.ptr 0 2 0 0, AVal.slc false 4 1 0 k2 none]], AObj.rows false 1 (flM 3), AObj.dead, AObj.rows true 11 [u0], AObj.trows 5 true 1 bs2]) :
    TripN Try.prog 5 (codeTail (codeTail (bodyOf Try.f53))) (mkR 8 [(0, AVal.ptr 0 2 0 0), (1, AVal.slc false 1 1 0 11 none), (4, AVal.ptr 4 1 0 0)]) ([AObj.rows false 2 [[AVal.ptr 0 2 0 0, AVal.slc false 2 1 0 k none]], AObj.rows false 1 (flM 3), AObj.trows 5 true 1 bs, AObj.rows true 11 [u0], AObj.rows true 1 [[AVal.int IntKind.i64 0]]]) (AExit.ret) (mkR 8 [(4, AVal.ptr 4 1 0 0)]) ([AObj.rows false 2 [[AVal.ptr 0 2 0 0, AVal.slc false 5 1 0 k2 none]], AObj.rows false 1 (flM 3), AObj.dead, AObj.rows true 11 [u0], AObj.rows true 1 [[AVal.int IntKind.i64 0]], AObj.trows 5 true 1 bs2]) :=
  evalT (st := St.mk (mkR 8 [(0, AVal.ptr 0 2 0 0), (1, AVal.slc false 1 1 0 11 none), (4, AVal.ptr 4 1 0 0)]) ([AObj.rows false 2 [[AVal.ptr 0 2 0 0, AVal.slc false 2 1 0 k none]], AObj.rows false 1 (flM 3), AObj.trows 5 true 1 bs, AObj.rows true 11 [u0], AObj.rows true 1 [[AVal.int IntKind.i64 0]]]) ([Dec.use [0, 1, 2, 3] [AVal.ptr 0 2 0 0, AVal.slc false 1 1 0 11 none] [AObj.rows false 2 [[AVal.ptr 0 2 0 0, AVal.slc false 2 1 0 k none]], AObj.rows false 1 (flM 3), AObj.trows 5 true 1 bs, AObj.rows true 11 [u0]] (AVal.tuple []) [AObj.rows false 2 [[AVal.ptr 0 2 0 0, AVal.slc false 4 1 0 k2 none]], AObj.rows false 1 (flM 3), AObj.dead, AObj.rows true 11 [u0], AObj.trows 5 true 1 bs2]]) []) (st' := St.mk (mkR 8 [(0, AVal.ptr 0 2 0 0), (1, AVal.slc false 1 1 0 11 none), (4, AVal.ptr 4 1 0 0), (5, AVal.ptr 0 2 0 0), (6, AVal.slc false 1 1 0 11 none), (7, AVal.tuple [])]) ([AObj.rows false 2 [[AVal.ptr 0 2 0 0, AVal.slc false 5 1 0 k2 none]], AObj.rows false 1 (flM 3), AObj.dead, AObj.rows true 11 [u0], AObj.rows true 1 [[AVal.int IntKind.i64 0]], AObj.trows 5 true 1 bs2]) ([]) (tr 2 ++ ((Owed.use (owed Try.prog 5) 64 [0, 1, 2, 3] [AVal.ptr 0 2 0 0, AVal.slc false 1 1 0 11 none] [AObj.rows false 2 [[AVal.ptr 0 2 0 0, AVal.slc false 2 1 0 k none]], AObj.rows false 1 (flM 3), AObj.trows 5 true 1 bs, AObj.rows true 11 [u0], AObj.rows true 1 [[AVal.int IntKind.i64 0]]] [AVal.ptr 0 2 0 0, AVal.slc false 1 1 0 11 none] [AObj.rows false 2 [[AVal.ptr 0 2 0 0, AVal.slc false 2 1 0 k none]], AObj.rows false 1 (flM 3), AObj.trows 5 true 1 bs, AObj.rows true 11 [u0]] (AVal.tuple []) [AObj.rows false 2 [[AVal.ptr 0 2 0 0, AVal.slc false 4 1 0 k2 none]], AObj.rows false 1 (flM 3), AObj.dead, AObj.rows true 11 [u0], AObj.trows 5 true 1 bs2]) :: []))) followed (by kernel_rfl) (allP_of (trC 2 ⟨⟨h1, rfl, rfl, rfl⟩, trivial⟩)) (keepM 8 [4]) ([0, 1, 2, 3, 4, 5]) (by kernel_rfl) (by kernel_rfl) (by kernel_rfl)

theorem rFM_1 (u0 v0 : List AVal) (m s s2 : ByteArray) (b : Bool)
    (h1 : FOk Try.prog 58 [AVal.bool (ByteArray.toList s2 == ByteArray.toList (ByteArray.mk #[]))] [] (AVal.tuple []) [])
    (h2 : FOk Try.prog 60 [AVal.ptr 0 1 0 0, AVal.slc false 1 1 0 11 none] [AObj.rows true 1 [[AVal.str (ByteArray.extract s (Int.toNat (↑(ByteArray.size m) : Int)) (Int.toNat (↑(ByteArray.size s) : Int)))]], AObj.rows false 1 (flM 2), AObj.rows true 11 [u0]] (AVal.tuple []) [AObj.rows true 1 [[AVal.str s2]], AObj.rows false 1 (flM 2), AObj.rows true 11 [v0]])
    (h3 : decide (0 ≤ (↑(ByteArray.size m) : Int) ∧ (↑(ByteArray.size m) : Int) ≤ (↑(ByteArray.size s) : Int) ∧ (↑(ByteArray.size s) : Int) ≤ (↑(ByteArray.size s) : Int)) = true)
    (h4 : FOk Try.prog 58 [AVal.bool true] [] (AVal.tuple []) [])
    (h5 : FOk Try.prog 59 [AVal.str s, AVal.str m] [] (AVal.bool true) []) :
    TripN Try.prog 4 (codeTail (codeTail (bodyOf Try.f40))) (mkR 20 [(1, AVal.str m), (2, AVal.slc false 0 1 0 11 none), (3, AVal.ptr 2 1 0 0), (6, AVal.ptr 3 1 0 0)]) ([AObj.rows false 1 (flM 1), AObj.rows true 11 [u0], AObj.rows true 1 [[AVal.str s]], AObj.rows true 1 [[AVal.int IntKind.i64 0]]]) (AExit.ret) (mkR 20 [(6, AVal.ptr 3 1 0 0)]) ([AObj.rows false 1 (flM 1), AObj.rows true 11 [v0], AObj.rows true 1 [[AVal.str s2]], AObj.rows true 1 [[AVal.int IntKind.i64 0]]]) :=
  evalT (st := St.mk (mkR 20 [(1, AVal.str m), (2, AVal.slc false 0 1 0 11 none), (3, AVal.ptr 2 1 0 0), (6, AVal.ptr 3 1 0 0)]) ([AObj.rows false 1 (flM 1), AObj.rows true 11 [u0], AObj.rows true 1 [[AVal.str s]], AObj.rows true 1 [[AVal.int IntKind.i64 0]]]) ([Dec.use [] [AVal.str s, AVal.str m] [] (AVal.bool true) [], Dec.use [] [AVal.bool true] [] (AVal.tuple []) [], Dec.use [2, 0, 1] [AVal.ptr 0 1 0 0, AVal.slc false 1 1 0 11 none] [AObj.rows true 1 [[AVal.str (ByteArray.extract s (Int.toNat (↑(ByteArray.size m) : Int)) (Int.toNat (↑(ByteArray.size s) : Int)))]], AObj.rows false 1 (flM 2), AObj.rows true 11 [u0]] (AVal.tuple []) [AObj.rows true 1 [[AVal.str s2]], AObj.rows false 1 (flM 2), AObj.rows true 11 [v0]], Dec.use [] [AVal.bool (ByteArray.toList s2 == ByteArray.toList (ByteArray.mk #[]))] [] (AVal.tuple []) []]) []) (st' := St.mk (mkR 20 [(1, AVal.str m), (2, AVal.slc false 0 1 0 11 none), (3, AVal.ptr 2 1 0 0), (6, AVal.ptr 3 1 0 0), (7, AVal.str s), (8, AVal.str m), (9, AVal.bool true), (10, AVal.tuple []), (11, AVal.str s), (12, AVal.str m), (13, AVal.int IntKind.i64 (↑(ByteArray.size m) : Int)), (14, AVal.str (ByteArray.extract s (Int.toNat (↑(ByteArray.size m) : Int)) (Int.toNat (↑(ByteArray.size s) : Int)))), (15, AVal.slc false 0 1 0 11 none), (16, AVal.tuple []), (17, AVal.str s2), (18, AVal.bool (ByteArray.toList s2 == ByteArray.toList (ByteArray.mk #[]))), (19, AVal.tuple [])]) ([AObj.rows false 1 (flM 1), AObj.rows true 11 [v0], AObj.rows true 1 [[AVal.str s2]], AObj.rows true 1 [[AVal.int IntKind.i64 0]]]) ([]) (tr 2 ++ ((Owed.use (owed Try.prog 4) 58 [] [AVal.bool (ByteArray.toList s2 == ByteArray.toList (ByteArray.mk #[]))] [AObj.rows false 1 (flM 1), AObj.rows true 11 [v0], AObj.rows true 1 [[AVal.str s2]], AObj.rows true 1 [[AVal.int IntKind.i64 0]]] [AVal.bool (ByteArray.toList s2 == ByteArray.toList (ByteArray.mk #[]))] [] (AVal.tuple []) []) :: (tr 3 ++ ((Owed.use (owed Try.prog 4) 60 [2, 0, 1] [AVal.ptr 2 1 0 0, AVal.slc false 0 1 0 11 none] [AObj.rows false 1 (flM 1), AObj.rows true 11 [u0], AObj.rows true 1 [[AVal.str (ByteArray.extract s (Int.toNat (↑(ByteArray.size m) : Int)) (Int.toNat (↑(ByteArray.size s) : Int)))]], AObj.rows true 1 [[AVal.int IntKind.i64 0]]] [AVal.ptr 0 1 0 0, AVal.slc false 1 1 0 11 none] [AObj.rows true 1 [[AVal.str (ByteArray.extract s (Int.toNat (↑(ByteArray.size m) : Int)) (Int.toNat (↑(ByteArray.size s) : Int)))]], AObj.rows false 1 (flM 2), AObj.rows true 11 [u0]] (AVal.tuple []) [AObj.rows true 1 [[AVal.str s2]], AObj.rows false 1 (flM 2), AObj.rows true 11 [v0]]) :: (tr 2 ++ ((decide (0 ≤ (↑(ByteArray.size m) : Int) ∧ (↑(ByteArray.size m) : Int) ≤ (↑(ByteArray.size s) : Int) ∧ (↑(ByteArray.size s) : Int) ≤ (↑(ByteArray.size s) : Int)) = true) :: (tr 3 ++ ((Owed.use (owed Try.prog 4) 58 [] [AVal.bool true] [AObj.rows false 1 (flM 1), AObj.rows true 11 [u0], AObj.rows true 1 [[AVal.str s]], AObj.rows true 1 [[AVal.int IntKind.i64 0]]] [AVal.bool true] [] (AVal.tuple []) []) :: ((Owed.use (owed Try.prog 4) 59 [] [AVal.str s, AVal.str m] [AObj.rows false 1 (flM 1), AObj.rows true 11 [u0], AObj.rows true 1 [[AVal.str s]], AObj.rows true 1 [[AVal.int IntKind.i64 0]]] [AVal.str s, AVal.str m] [] (AVal.bool true) []) :: (tr 3 ++ []))))))))))) followed (by kernel_rfl) (allP_of (trC 2 ⟨⟨h1, rfl, rfl, rfl⟩, (trC 3 ⟨⟨h2, rfl, rfl, rfl⟩, (trC 2 ⟨h3, (trC 3 ⟨⟨h4, rfl, rfl, rfl⟩, ⟨⟨h5, rfl, rfl, rfl⟩, (trC 3 trivial)⟩⟩)⟩)⟩)⟩)) (keepM 20 [6]) ([0, 1, 2, 3]) (by kernel_rfl) (by kernel_rfl) (by kernel_rfl)

theorem rFeM_1 (u0 v0 : List AVal) (m s s2 : ByteArray) (b : Bool)
    (h1 : FOk Try.prog 58 [AVal.bool (ByteArray.toList s2 == ByteArray.toList (ByteArray.mk #[]))] [] (AVal.pan 117) [])
    (h2 : FOk Try.prog 60 [AVal.ptr 0 1 0 0, AVal.slc false 1 1 0 11 none] [AObj.rows true 1 [[AVal.str (ByteArray.extract s (Int.toNat (↑(ByteArray.size m) : Int)) (Int.toNat (↑(ByteArray.size s) : Int)))]], AObj.rows false 1 (flM 2), AObj.rows true 11 [u0]] (AVal.tuple []) [AObj.rows true 1 [[AVal.str s2]], AObj.rows false 1 (flM 2), AObj.rows true 11 [v0]])
    (h3 : decide (0 ≤ (↑(ByteArray.size m) : Int) ∧ (↑(ByteArray.size m) : Int) ≤ (↑(ByteArray.size s) : Int) ∧ (↑(ByteArray.size s) : Int) ≤ (↑(ByteArray.size s) : Int)) = true)
    (h4 : FOk Try.prog 58 [AVal.bool true] [] (AVal.tuple []) [])
    (h5 : FOk Try.prog 59 [AVal.str s, AVal.str m] [] (AVal.bool true) []) :
    TripN Try.prog 4 (codeTail (codeTail (bodyOf Try.f40))) (mkR 20 [(1, AVal.str m), (2, AVal.slc false 0 1 0 11 none), (3, AVal.ptr 2 1 0 0), (6, AVal.ptr 3 1 0 0)]) ([AObj.rows false 1 (flM 1), AObj.rows true 11 [u0], AObj.rows true 1 [[AVal.str s]], AObj.rows true 1 [[AVal.int IntKind.i64 0]]]) (AExit.pan 117) (mkR 20 [(6, AVal.ptr 3 1 0 0)]) ([AObj.rows false 1 (flM 1), AObj.rows true 11 [v0], AObj.rows true 1 [[AVal.str s2]], AObj.rows true 1 [[AVal.int IntKind.i64 0]]]) :=
  evalT (st := St.mk (mkR 20 [(1, AVal.str m), (2, AVal.slc false 0 1 0 11 none), (3, AVal.ptr 2 1 0 0), (6, AVal.ptr 3 1 0 0)]) ([AObj.rows false 1 (flM 1), AObj.rows true 11 [u0], AObj.rows true 1 [[AVal.str s]], AObj.rows true 1 [[AVal.int IntKind.i64 0]]]) ([Dec.use [] [AVal.str s, AVal.str m] [] (AVal.bool true) [], Dec.use [] [AVal.bool true] [] (AVal.tuple []) [], Dec.use [2, 0, 1] [AVal.ptr 0 1 0 0, AVal.slc false 1 1 0 11 none] [AObj.rows true 1 [[AVal.str (ByteArray.extract s (Int.toNat (↑(ByteArray.size m) : Int)) (Int.toNat (↑(ByteArray.size s) : Int)))]], AObj.rows false 1 (flM 2), AObj.rows true 11 [u0]] (AVal.tuple []) [AObj.rows true 1 [[AVal.str s2]], AObj.rows false 1 (flM 2), AObj.rows true 11 [v0]], Dec.use [] [AVal.bool (ByteArray.toList s2 == ByteArray.toList (ByteArray.mk #[]))] [] (AVal.pan 117) []]) []) (st' := St.mk (mkR 20 [(1, AVal.str m), (2, AVal.slc false 0 1 0 11 none), (3, AVal.ptr 2 1 0 0), (6, AVal.ptr 3 1 0 0), (7, AVal.str s), (8, AVal.str m), (9, AVal.bool true), (10, AVal.tuple []), (11, AVal.str s), (12, AVal.str m), (13, AVal.int IntKind.i64 (↑(ByteArray.size m) : Int)), (14, AVal.str (ByteArray.extract s (Int.toNat (↑(ByteArray.size m) : Int)) (Int.toNat (↑(ByteArray.size s) : Int)))), (15, AVal.slc false 0 1 0 11 none), (16, AVal.tuple []), (17, AVal.str s2), (18, AVal.bool (ByteArray.toList s2 == ByteArray.toList (ByteArray.mk #[])))]) ([AObj.rows false 1 (flM 1), AObj.rows true 11 [v0], AObj.rows true 1 [[AVal.str s2]], AObj.rows true 1 [[AVal.int IntKind.i64 0]]]) ([]) ((Owed.use (owed Try.prog 4) 58 [] [AVal.bool (ByteArray.toList s2 == ByteArray.toList (ByteArray.mk #[]))] [AObj.rows false 1 (flM 1), AObj.rows true 11 [v0], AObj.rows true 1 [[AVal.str s2]], AObj.rows true 1 [[AVal.int IntKind.i64 0]]] [AVal.bool (ByteArray.toList s2 == ByteArray.toList (ByteArray.mk #[]))] [] (AVal.pan 117) []) :: (tr 3 ++ ((Owed.use (owed Try.prog 4) 60 [2, 0, 1] [AVal.ptr 2 1 0 0, AVal.slc false 0 1 0 11 none] [AObj.rows false 1 (flM 1), AObj.rows true 11 [u0], AObj.rows true 1 [[AVal.str (ByteArray.extract s (Int.toNat (↑(ByteArray.size m) : Int)) (Int.toNat (↑(ByteArray.size s) : Int)))]], AObj.rows true 1 [[AVal.int IntKind.i64 0]]] [AVal.ptr 0 1 0 0, AVal.slc false 1 1 0 11 none] [AObj.rows true 1 [[AVal.str (ByteArray.extract s (Int.toNat (↑(ByteArray.size m) : Int)) (Int.toNat (↑(ByteArray.size s) : Int)))]], AObj.rows false 1 (flM 2), AObj.rows true 11 [u0]] (AVal.tuple []) [AObj.rows true 1 [[AVal.str s2]], AObj.rows false 1 (flM 2), AObj.rows true 11 [v0]]) :: (tr 2 ++ ((decide (0 ≤ (↑(ByteArray.size m) : Int) ∧ (↑(ByteArray.size m) : Int) ≤ (↑(ByteArray.size s) : Int) ∧ (↑(ByteArray.size s) : Int) ≤ (↑(ByteArray.size s) : Int)) = true) :: (tr 3 ++ ((Owed.use (owed Try.prog 4) 58 [] [AVal.bool true] [AObj.rows false 1 (flM 1), AObj.rows true 11 [u0], AObj.rows true 1 [[AVal.str s]], AObj.rows true 1 [[AVal.int IntKind.i64 0]]] [AVal.bool true] [] (AVal.tuple []) []) :: ((Owed.use (owed Try.prog 4) 59 [] [AVal.str s, AVal.str m] [AObj.rows false 1 (flM 1), AObj.rows true 11 [u0], AObj.rows true 1 [[AVal.str s]], AObj.rows true 1 [[AVal.int IntKind.i64 0]]] [AVal.str s, AVal.str m] [] (AVal.bool true) []) :: (tr 3 ++ [])))))))))) followed (by kernel_rfl) (allP_of ⟨⟨h1, rfl, rfl, rfl⟩, (trC 3 ⟨⟨h2, rfl, rfl, rfl⟩, (trC 2 ⟨h3, (trC 3 ⟨⟨h4, rfl, rfl, rfl⟩, ⟨⟨h5, rfl, rfl, rfl⟩, (trC 3 trivial)⟩⟩)⟩)⟩)⟩) (keepM 20 [6]) ([0, 1, 2, 3]) (by kernel_rfl) (by kernel_rfl) (by kernel_rfl)

theorem rFnM_1 (u0 : List AVal) (m s : ByteArray)
    (h1 : FOk Try.prog 60 [AVal.ptr 0 1 0 0, AVal.slc false 1 1 0 11 none] [AObj.rows true 1 [[AVal.str (ByteArray.extract s (Int.toNat (↑(ByteArray.size m) : Int)) (Int.toNat (↑(ByteArray.size s) : Int)))]], AObj.rows false 1 (flM 2), AObj.rows true 11 [u0]] (AVal.pan 117) [AObj.dead, AObj.dead, AObj.dead])
    (h2 : decide (0 ≤ (↑(ByteArray.size m) : Int) ∧ (↑(ByteArray.size m) : Int) ≤ (↑(ByteArray.size s) : Int) ∧ (↑(ByteArray.size s) : Int) ≤ (↑(ByteArray.size s) : Int)) = true)
    (h3 : FOk Try.prog 58 [AVal.bool true] [] (AVal.tuple []) [])
    (h4 : FOk Try.prog 59 [AVal.str s, AVal.str m] [] (AVal.bool true) []) :
    TripN Try.prog 4 (codeTail (codeTail (bodyOf Try.f40))) (mkR 20 [(1, AVal.str m), (2, AVal.slc false 0 1 0 11 none), (3, AVal.ptr 2 1 0 0), (6, AVal.ptr 3 1 0 0)]) ([AObj.rows false 1 (flM 1), AObj.rows true 11 [u0], AObj.rows true 1 [[AVal.str s]], AObj.rows true 1 [[AVal.int IntKind.i64 0]]]) (AExit.pan 117) (mkR 20 [(6, AVal.ptr 3 1 0 0)]) ([AObj.dead, AObj.dead, AObj.dead, AObj.rows true 1 [[AVal.int IntKind.i64 0]]]) :=
  evalT (st := St.mk (mkR 20 [(1, AVal.str m), (2, AVal.slc false 0 1 0 11 none), (3, AVal.ptr 2 1 0 0), (6, AVal.ptr 3 1 0 0)]) ([AObj.rows false 1 (flM 1), AObj.rows true 11 [u0], AObj.rows true 1 [[AVal.str s]], AObj.rows true 1 [[AVal.int IntKind.i64 0]]]) ([Dec.use [] [AVal.str s, AVal.str m] [] (AVal.bool true) [], Dec.use [] [AVal.bool true] [] (AVal.tuple []) [], Dec.use [2, 0, 1] [AVal.ptr 0 1 0 0, AVal.slc false 1 1 0 11 none] [AObj.rows true 1 [[AVal.str (ByteArray.extract s (Int.toNat (↑(ByteArray.size m) : Int)) (Int.toNat (↑(ByteArray.size s) : Int)))]], AObj.rows false 1 (flM 2), AObj.rows true 11 [u0]] (AVal.pan 117) [AObj.dead, AObj.dead, AObj.dead]]) []) (st' := St.mk (mkR 20 [(1, AVal.str m), (2, AVal.slc false 0 1 0 11 none), (3, AVal.ptr 2 1 0 0), (6, AVal.ptr 3 1 0 0), (7, AVal.str s), (8, AVal.str m), (9, AVal.bool true), (10, AVal.tuple []), (11, AVal.str s), (12, AVal.str m), (13, AVal.int IntKind.i64 (↑(ByteArray.size m) : Int)), (14, AVal.str (ByteArray.extract s (Int.toNat (↑(ByteArray.size m) : Int)) (Int.toNat (↑(ByteArray.size s) : Int)))), (15, AVal.slc false 0 1 0 11 none)]) ([AObj.dead, AObj.dead, AObj.dead, AObj.rows true 1 [[AVal.int IntKind.i64 0]]]) ([]) ((Owed.use (owed Try.prog 4) 60 [2, 0, 1] [AVal.ptr 2 1 0 0, AVal.slc false 0 1 0 11 none] [AObj.rows false 1 (flM 1), AObj.rows true 11 [u0], AObj.rows true 1 [[AVal.str (ByteArray.extract s (Int.toNat (↑(ByteArray.size m) : Int)) (Int.toNat (↑(ByteArray.size s) : Int)))]], AObj.rows true 1 [[AVal.int IntKind.i64 0]]] [AVal.ptr 0 1 0 0, AVal.slc false 1 1 0 11 none] [AObj.rows true 1 [[AVal.str (ByteArray.extract s (Int.toNat (↑(ByteArray.size m) : Int)) (Int.toNat (↑(ByteArray.size s) : Int)))]], AObj.rows false 1 (flM 2), AObj.rows true 11 [u0]] (AVal.pan 117) [AObj.dead, AObj.dead, AObj.dead]) :: (tr 2 ++ ((decide (0 ≤ (↑(ByteArray.size m) : Int) ∧ (↑(ByteArray.size m) : Int) ≤ (↑(ByteArray.size s) : Int) ∧ (↑(ByteArray.size s) : Int) ≤ (↑(ByteArray.size s) : Int)) = true) :: (tr 3 ++ ((Owed.use (owed Try.prog 4) 58 [] [AVal.bool true] [AObj.rows false 1 (flM 1), AObj.rows true 11 [u0], AObj.rows true 1 [[AVal.str s]], AObj.rows true 1 [[AVal.int IntKind.i64 0]]] [AVal.bool true] [] (AVal.tuple []) []) :: ((Owed.use (owed Try.prog 4) 59 [] [AVal.str s, AVal.str m] [AObj.rows false 1 (flM 1), AObj.rows true 11 [u0], AObj.rows true 1 [[AVal.str s]], AObj.rows true 1 [[AVal.int IntKind.i64 0]]] [AVal.str s, AVal.str m] [] (AVal.bool true) []) :: (tr 3 ++ [])))))))) followed (by kernel_rfl) (allP_of ⟨⟨h1, rfl, rfl, rfl⟩, (trC 2 ⟨h2, (trC 3 ⟨⟨h3, rfl, rfl, rfl⟩, ⟨⟨h4, rfl, rfl, rfl⟩, (trC 3 trivial)⟩⟩)⟩)⟩) (keepM 20 [6]) ([0, 1, 2, 3]) (by kernel_rfl) (by kernel_rfl) (by kernel_rfl)

theorem rFpM_1 (u0 : List AVal) (m s : ByteArray)
    (h1 : FOk Try.prog 58 [AVal.bool false] [] (AVal.pan 117) [])
    (h2 : FOk Try.prog 59 [AVal.str s, AVal.str m] [] (AVal.bool false) []) :
    TripN Try.prog 4 (codeTail (codeTail (bodyOf Try.f40))) (mkR 20 [(1, AVal.str m), (2, AVal.slc false 0 1 0 11 none), (3, AVal.ptr 2 1 0 0), (6, AVal.ptr 3 1 0 0)]) ([AObj.rows false 1 (flM 1), AObj.rows true 11 [u0], AObj.rows true 1 [[AVal.str s]], AObj.rows true 1 [[AVal.int IntKind.i64 0]]]) (AExit.pan 117) (mkR 20 [(6, AVal.ptr 3 1 0 0)]) ([AObj.rows false 1 (flM 1), AObj.rows true 11 [u0], AObj.rows true 1 [[AVal.str s]], AObj.rows true 1 [[AVal.int IntKind.i64 0]]]) :=
  evalT (st := St.mk (mkR 20 [(1, AVal.str m), (2, AVal.slc false 0 1 0 11 none), (3, AVal.ptr 2 1 0 0), (6, AVal.ptr 3 1 0 0)]) ([AObj.rows false 1 (flM 1), AObj.rows true 11 [u0], AObj.rows true 1 [[AVal.str s]], AObj.rows true 1 [[AVal.int IntKind.i64 0]]]) ([Dec.use [] [AVal.str s, AVal.str m] [] (AVal.bool false) [], Dec.use [] [AVal.bool false] [] (AVal.pan 117) []]) []) (st' := St.mk (mkR 20 [(1, AVal.str m), (2, AVal.slc false 0 1 0 11 none), (3, AVal.ptr 2 1 0 0), (6, AVal.ptr 3 1 0 0), (7, AVal.str s), (8, AVal.str m), (9, AVal.bool false)]) ([AObj.rows false 1 (flM 1), AObj.rows true 11 [u0], AObj.rows true 1 [[AVal.str s]], AObj.rows true 1 [[AVal.int IntKind.i64 0]]]) ([]) ((Owed.use (owed Try.prog 4) 58 [] [AVal.bool false] [AObj.rows false 1 (flM 1), AObj.rows true 11 [u0], AObj.rows true 1 [[AVal.str s]], AObj.rows true 1 [[AVal.int IntKind.i64 0]]] [AVal.bool false] [] (AVal.pan 117) []) :: ((Owed.use (owed Try.prog 4) 59 [] [AVal.str s, AVal.str m] [AObj.rows false 1 (flM 1), AObj.rows true 11 [u0], AObj.rows true 1 [[AVal.str s]], AObj.rows true 1 [[AVal.int IntKind.i64 0]]] [AVal.str s, AVal.str m] [] (AVal.bool false) []) :: (tr 3 ++ [])))) followed (by kernel_rfl) (allP_of ⟨⟨h1, rfl, rfl, rfl⟩, ⟨⟨h2, rfl, rfl, rfl⟩, (trC 3 trivial)⟩⟩) (keepM 20 [6]) ([0, 1, 2, 3]) (by kernel_rfl) (by kernel_rfl) (by kernel_rfl)

theorem bTM_1 (u0 : List AVal) (k2 : Nat) (bs2 : List (List AVal)) :
    TripN Try.prog 6 (codeTail (bodyOf Try.f57)) (catchRegs 16 4 1 7 AVal.nili) ([AObj.rows false 2 [[AVal.ptr 0 2 0 0, AVal.slc false 5 1 0 k2 none]], AObj.rows false 1 (flM 3), AObj.dead, AObj.rows true 11 [u0], AObj.rows true 1 [[AVal.int IntKind.i64 0]], AObj.trows 5 true 1 bs2]) (AExit.normal) (mkR 16 []) ([AObj.rows false 2 [[AVal.ptr 0 2 0 0, AVal.slc false 5 1 0 k2 none]], AObj.rows false 1 (flM 3), AObj.dead, AObj.rows true 11 [u0], AObj.rows true 1 [[AVal.int IntKind.i64 0]], AObj.trows 5 true 1 bs2]) :=
  evalT (st := St.mk (catchRegs 16 4 1 7 AVal.nili) ([AObj.rows false 2 [[AVal.ptr 0 2 0 0, AVal.slc false 5 1 0 k2 none]], AObj.rows false 1 (flM 3), AObj.dead, AObj.rows true 11 [u0], AObj.rows true 1 [[AVal.int IntKind.i64 0]], AObj.trows 5 true 1 bs2]) ([Dec.br true]) []) (st' := St.mk (mkR 16 [(0, AVal.ptr 4 1 0 0), (1, AVal.int IntKind.i64 1), (2, AVal.tuple []), (3, AVal.tuple []), (4, AVal.nili), (5, AVal.tuple []), (6, AVal.tuple []), (7, AVal.nili), (8, AVal.tuple []), (9, AVal.tt true), (10, AVal.tuple []), (11, AVal.tuple []), (12, AVal.tuple []), (13, AVal.tuple []), (14, AVal.tuple []), (15, AVal.tuple [])]) ([AObj.rows false 2 [[AVal.ptr 0 2 0 0, AVal.slc false 5 1 0 k2 none]], AObj.rows false 1 (flM 3), AObj.dead, AObj.rows true 11 [u0], AObj.rows true 1 [[AVal.int IntKind.i64 0]], AObj.trows 5 true 1 bs2]) ([]) (tr 1 ++ [])) followed (by kernel_rfl) (allP_of (trC 1 trivial)) (keepM 16 []) ([0, 1, 2, 3, 4, 5]) (by kernel_rfl) (by kernel_rfl) (by kernel_rfl)

theorem bFM_1 (v0 : List AVal) (s2 : ByteArray) :
    TripN Try.prog 4 (codeTail (bodyOf Try.f57)) (catchRegs 16 3 140 7 AVal.nili) ([AObj.rows false 1 (flM 1), AObj.rows true 11 [v0], AObj.rows true 1 [[AVal.str s2]], AObj.rows true 1 [[AVal.int IntKind.i64 0]]]) (AExit.normal) (mkR 16 []) ([AObj.rows false 1 (flM 1), AObj.rows true 11 [v0], AObj.rows true 1 [[AVal.str s2]], AObj.rows true 1 [[AVal.int IntKind.i64 0]]]) :=
  evalT (st := St.mk (catchRegs 16 3 140 7 AVal.nili) ([AObj.rows false 1 (flM 1), AObj.rows true 11 [v0], AObj.rows true 1 [[AVal.str s2]], AObj.rows true 1 [[AVal.int IntKind.i64 0]]]) ([Dec.br true]) []) (st' := St.mk (mkR 16 [(0, AVal.ptr 3 1 0 0), (1, AVal.int IntKind.i64 140), (2, AVal.tuple []), (3, AVal.tuple []), (4, AVal.nili), (5, AVal.tuple []), (6, AVal.tuple []), (7, AVal.nili), (8, AVal.tuple []), (9, AVal.tt true), (10, AVal.tuple []), (11, AVal.tuple []), (12, AVal.tuple []), (13, AVal.tuple []), (14, AVal.tuple []), (15, AVal.tuple [])]) ([AObj.rows false 1 (flM 1), AObj.rows true 11 [v0], AObj.rows true 1 [[AVal.str s2]], AObj.rows true 1 [[AVal.int IntKind.i64 0]]]) ([]) (tr 1 ++ [])) followed (by kernel_rfl) (allP_of (trC 1 trivial)) (keepM 16 []) ([0, 1, 2, 3]) (by kernel_rfl) (by kernel_rfl) (by kernel_rfl)

theorem bFnM_1 (x : Nat) :
    TripN Try.prog 4 (codeTail (bodyOf Try.f57)) (catchRegs 16 3 140 7 (AVal.iface 117 (AVal.agg []))) ([AObj.dead, AObj.dead, AObj.dead, AObj.rows true 1 [[AVal.int IntKind.i64 0]]]) (AExit.normal) (mkR 16 []) ([AObj.dead, AObj.dead, AObj.dead, AObj.rows true 1 [[AVal.int IntKind.i64 140]]]) :=
  evalT (st := St.mk (catchRegs 16 3 140 7 (AVal.iface 117 (AVal.agg []))) ([AObj.dead, AObj.dead, AObj.dead, AObj.rows true 1 [[AVal.int IntKind.i64 0]]]) ([Dec.br false]) []) (st' := St.mk (mkR 16 [(0, AVal.ptr 3 1 0 0), (1, AVal.int IntKind.i64 140), (2, AVal.tuple []), (3, AVal.tuple []), (4, AVal.tuple []), (5, AVal.ptr 4 0 0 0), (6, AVal.tuple []), (7, AVal.iface 117 (AVal.agg [])), (8, AVal.tuple []), (9, AVal.tt false), (10, AVal.tuple [AVal.agg [], AVal.tt true]), (11, AVal.tt true), (12, AVal.agg []), (13, AVal.ptr 3 1 0 0), (14, AVal.int IntKind.i64 140), (15, AVal.ptr 3 1 0 0)]) ([AObj.dead, AObj.dead, AObj.dead, AObj.rows true 1 [[AVal.int IntKind.i64 140]], AObj.rows true 0 [[]]]) ([]) (tr 4 ++ ((false = false) :: []))) followed (by kernel_rfl) (allP_of (trC 4 ⟨rfl, trivial⟩)) (keepM 16 []) ([0, 1, 2, 3]) (by kernel_rfl) (by kernel_rfl) (by kernel_rfl)

theorem hTM_1 (u0 : List AVal) (k : Nat) (bs : List (List AVal)) :
    TripN Try.prog 4 (codeHd (bodyOf Try.f53)) ([AVal.ptr 0 2 0 0, AVal.slc false 1 1 0 11 none] ++ List.replicate (8 - 2) aundef) ([AObj.rows false 2 [[AVal.ptr 0 2 0 0, AVal.slc false 2 1 0 k none]], AObj.rows false 1 (flM 3), AObj.trows 5 true 1 bs, AObj.rows true 11 [u0]]) (AExit.normal) (mkR 8 [(0, AVal.ptr 0 2 0 0), (1, AVal.slc false 1 1 0 11 none), (4, AVal.ptr 4 1 0 0)]) ([AObj.rows false 2 [[AVal.ptr 0 2 0 0, AVal.slc false 2 1 0 k none]], AObj.rows false 1 (flM 3), AObj.trows 5 true 1 bs, AObj.rows true 11 [u0], AObj.rows true 1 [[AVal.int IntKind.i64 0]]]) :=
  evalT (st := St.mk ([AVal.ptr 0 2 0 0, AVal.slc false 1 1 0 11 none] ++ List.replicate (8 - 2) aundef) ([AObj.rows false 2 [[AVal.ptr 0 2 0 0, AVal.slc false 2 1 0 k none]], AObj.rows false 1 (flM 3), AObj.trows 5 true 1 bs, AObj.rows true 11 [u0]]) ([]) []) (st' := St.mk (mkR 8 [(0, AVal.ptr 0 2 0 0), (1, AVal.slc false 1 1 0 11 none), (2, AVal.tuple []), (3, AVal.tuple []), (4, AVal.ptr 4 1 0 0), (5, AVal.tuple []), (6, AVal.tuple []), (7, AVal.tuple [])]) ([AObj.rows false 2 [[AVal.ptr 0 2 0 0, AVal.slc false 2 1 0 k none]], AObj.rows false 1 (flM 3), AObj.trows 5 true 1 bs, AObj.rows true 11 [u0], AObj.rows true 1 [[AVal.int IntKind.i64 0]]]) ([]) []) followed (by kernel_rfl) (allP_of trivial) (keepM 8 [0, 1, 4]) ([0, 1, 2, 3, 4]) (by kernel_rfl) (by kernel_rfl) (by kernel_rfl)

theorem hFM_1 (u0 : List AVal) (s m : ByteArray) :
    TripN Try.prog 2 (codeHd (bodyOf Try.f40)) ([AVal.str s, AVal.str m, AVal.slc false 0 1 0 11 none] ++ List.replicate (20 - 3) aundef) ([AObj.rows false 1 (flM 1), AObj.rows true 11 [u0]]) (AExit.normal) (mkR 20 [(1, AVal.str m), (2, AVal.slc false 0 1 0 11 none), (3, AVal.ptr 2 1 0 0), (6, AVal.ptr 3 1 0 0)]) ([AObj.rows false 1 (flM 1), AObj.rows true 11 [u0], AObj.rows true 1 [[AVal.str s]], AObj.rows true 1 [[AVal.int IntKind.i64 0]]]) :=
  evalT (st := St.mk ([AVal.str s, AVal.str m, AVal.slc false 0 1 0 11 none] ++ List.replicate (20 - 3) aundef) ([AObj.rows false 1 (flM 1), AObj.rows true 11 [u0]]) ([]) []) (st' := St.mk (mkR 20 [(0, AVal.str s), (1, AVal.str m), (2, AVal.slc false 0 1 0 11 none), (3, AVal.ptr 2 1 0 0), (4, AVal.tuple []), (5, AVal.tuple []), (6, AVal.ptr 3 1 0 0), (7, AVal.tuple []), (8, AVal.tuple []), (9, AVal.tuple []), (10, AVal.tuple []), (11, AVal.tuple []), (12, AVal.tuple []), (13, AVal.tuple []), (14, AVal.tuple []), (15, AVal.tuple []), (16, AVal.tuple []), (17, AVal.tuple []), (18, AVal.tuple []), (19, AVal.tuple [])]) ([AObj.rows false 1 (flM 1), AObj.rows true 11 [u0], AObj.rows true 1 [[AVal.str s]], AObj.rows true 1 [[AVal.int IntKind.i64 0]]]) ([]) []) followed (by kernel_rfl) (allP_of trivial) (keepM 20 [1, 2, 3, 6]) ([0, 1, 2, 3]) (by kernel_rfl) (by kernel_rfl) (by kernel_rfl)

end Go.L12
end

section
set_option linter.unusedVariables false
set_option maxRecDepth 100000
namespace Go.L12.D
open Go Go.Abs Go.Proofs Go.L12
variable [DS]

theorem rTM_1 (u0 : List AVal) (k k2 : Nat) (bs bs2 : List (List AVal))
    (h1 : FOk Try.prog 64 [AVal.ptr 0 2 0 0, AVal.slc false 1 1 0 11 none] [AObj.rows false 2 [[AVal.ptr 0 2 0 0, AVal.slc false 2 1 0 k none]], AObj.rows false 1 (flM 3), AObj.trows 5 true 1 bs, AObj.rows true 11 [u0]] (AVal.tuple []) [AObj.rows false 2 [[AVal.ptr 0 2 0 0, AVal.slc false 4 1 0 k2 none]], AObj.rows false 1 (flM 3), AObj.dead, AObj.rows true 11 [u0], AObj.trows 5 true 1 bs2]) :
    TripN Try.prog 5 (codeTail (codeTail (bodyOf Try.f53))) (mkR 8 [(0, AVal.ptr 0 2 0 0), (1, AVal.slc false 1 1 0 11 none), (4, AVal.ptr 4 1 0 0)]) ([AObj.rows false 2 [[AVal.ptr 0 2 0 0, AVal.slc false 2 1 0 k none]], AObj.rows false 1 (flM 3), AObj.trows 5 true 1 bs, AObj.rows true 11 [u0], AObj.rows true 1 [[AVal.int IntKind.i64 0]]]) (AExit.ret) (mkR 8 [(4, AVal.ptr 4 1 0 0)]) ([AObj.rows false 2 [[AVal.ptr 0 2 0 0, AVal.slc false 5 1 0 k2 none]], AObj.rows false 1 (flM 3), AObj.dead, AObj.rows true 11 [u0], AObj.rows true 1 [[AVal.int IntKind.i64 0]], AObj.trows 5 true 1 bs2]) :=
  evalT (st := St.mk (mkR 8 [(0, AVal.ptr 0 2 0 0), (1, AVal.slc false 1 1 0 11 none), (4, AVal.ptr 4 1 0 0)]) ([AObj.rows false 2 [[AVal.ptr 0 2 0 0, AVal.slc false 2 1 0 k none]], AObj.rows false 1 (flM 3), AObj.trows 5 true 1 bs, AObj.rows true 11 [u0], AObj.rows true 1 [[AVal.int IntKind.i64 0]]]) ([Dec.use [0, 1, 2, 3] [AVal.ptr 0 2 0 0, AVal.slc false 1 1 0 11 none] [AObj.rows false 2 [[AVal.ptr 0 2 0 0, AVal.slc false 2 1 0 k none]], AObj.rows false 1 (flM 3), AObj.trows 5 true 1 bs, AObj.rows true 11 [u0]] (AVal.tuple []) [AObj.rows false 2 [[AVal.ptr 0 2 0 0, AVal.slc false 4 1 0 k2 none]], AObj.rows false 1 (flM 3), AObj.dead, AObj.rows true 11 [u0], AObj.trows 5 true 1 bs2]]) []) (st' := St.mk (mkR 8 [(0, AVal.ptr 0 2 0 0), (1, AVal.slc false 1 1 0 11 none), (4, AVal.ptr 4 1 0 0), (5, AVal.ptr 0 2 0 0), (6, AVal.slc false 1 1 0 11 none), (7, AVal.tuple [])]) ([AObj.rows false 2 [[AVal.ptr 0 2 0 0, AVal.slc false 5 1 0 k2 none]], AObj.rows false 1 (flM 3), AObj.dead, AObj.rows true 11 [u0], AObj.rows true 1 [[AVal.int IntKind.i64 0]], AObj.trows 5 true 1 bs2]) ([]) (tr 2 ++ ((Owed.use (owed Try.prog 5) 64 [0, 1, 2, 3] [AVal.ptr 0 2 0 0, AVal.slc false 1 1 0 11 none] [AObj.rows false 2 [[AVal.ptr 0 2 0 0, AVal.slc false 2 1 0 k none]], AObj.rows false 1 (flM 3), AObj.trows 5 true 1 bs, AObj.rows true 11 [u0], AObj.rows true 1 [[AVal.int IntKind.i64 0]]] [AVal.ptr 0 2 0 0, AVal.slc false 1 1 0 11 none] [AObj.rows false 2 [[AVal.ptr 0 2 0 0, AVal.slc false 2 1 0 k none]], AObj.rows false 1 (flM 3), AObj.trows 5 true 1 bs, AObj.rows true 11 [u0]] (AVal.tuple []) [AObj.rows false 2 [[AVal.ptr 0 2 0 0, AVal.slc false 4 1 0 k2 none]], AObj.rows false 1 (flM 3), AObj.dead, AObj.rows true 11 [u0], AObj.trows 5 true 1 bs2]) :: []))) followed (by kernel_rfl) (allP_of (trC 2 ⟨⟨h1, rfl, rfl, rfl⟩, trivial⟩)) (keepM 8 [4]) ([0, 1, 2, 3, 4, 5]) (by kernel_rfl) (by kernel_rfl) (by kernel_rfl)

theorem rFM_1 (u0 v0 : List AVal) (m s s2 : ByteArray) (b : Bool)
    (h1 : FOk Try.prog 58 [AVal.bool (ByteArray.toList s2 == ByteArray.toList (ByteArray.mk #[]))] [] (AVal.tuple []) [])
    (h2 : FOk Try.prog 60 [AVal.ptr 0 1 0 0, AVal.slc false 1 1 0 11 none] [AObj.rows true 1 [[AVal.str (ByteArray.extract s (Int.toNat (↑(ByteArray.size m) : Int)) (Int.toNat (↑(ByteArray.size s) : Int)))]], AObj.rows false 1 (flM 2), AObj.rows true 11 [u0]] (AVal.tuple []) [AObj.rows true 1 [[AVal.str s2]], AObj.rows false 1 (flM 2), AObj.rows true 11 [v0]])
    (h3 : decide (0 ≤ (↑(ByteArray.size m) : Int) ∧ (↑(ByteArray.size m) : Int) ≤ (↑(ByteArray.size s) : Int) ∧ (↑(ByteArray.size s) : Int) ≤ (↑(ByteArray.size s) : Int)) = true)
    (h4 : FOk Try.prog 58 [AVal.bool true] [] (AVal.tuple []) [])
    (h5 : FOk Try.prog 59 [AVal.str s, AVal.str m] [] (AVal.bool true) []) :
    TripN Try.prog 4 (codeTail (codeTail (bodyOf Try.f40))) (mkR 20 [(1, AVal.str m), (2, AVal.slc false 0 1 0 11 none), (3, AVal.ptr 2 1 0 0), (6, AVal.ptr 3 1 0 0)]) ([AObj.rows false 1 (flM 1), AObj.rows true 11 [u0], AObj.rows true 1 [[AVal.str s]], AObj.rows true 1 [[AVal.int IntKind.i64 0]]]) (AExit.ret) (mkR 20 [(6, AVal.ptr 3 1 0 0)]) ([AObj.rows false 1 (flM 1), AObj.rows true 11 [v0], AObj.rows true 1 [[AVal.str s2]], AObj.rows true 1 [[AVal.int IntKind.i64 0]]]) :=
  evalT (st := St.mk (mkR 20 [(1, AVal.str m), (2, AVal.slc false 0 1 0 11 none), (3, AVal.ptr 2 1 0 0), (6, AVal.ptr 3 1 0 0)]) ([AObj.rows false 1 (flM 1), AObj.rows true 11 [u0], AObj.rows true 1 [[AVal.str s]], AObj.rows true 1 [[AVal.int IntKind.i64 0]]]) ([Dec.use [] [AVal.str s, AVal.str m] [] (AVal.bool true) [], Dec.use [] [AVal.bool true] [] (AVal.tuple []) [], Dec.use [2, 0, 1] [AVal.ptr 0 1 0 0, AVal.slc false 1 1 0 11 none] [AObj.rows true 1 [[AVal.str (ByteArray.extract s (Int.toNat (↑(ByteArray.size m) : Int)) (Int.toNat (↑(ByteArray.size s) : Int)))]], AObj.rows false 1 (flM 2), AObj.rows true 11 [u0]] (AVal.tuple []) [AObj.rows true 1 [[AVal.str s2]], AObj.rows false 1 (flM 2), AObj.rows true 11 [v0]], Dec.use [] [AVal.bool (ByteArray.toList s2 == ByteArray.toList (ByteArray.mk #[]))] [] (AVal.tuple []) []]) []) (st' := St.mk (mkR 20 [(1, AVal.str m), (2, AVal.slc false 0 1 0 11 none), (3, AVal.ptr 2 1 0 0), (6, AVal.ptr 3 1 0 0), (7, AVal.str s), (8, AVal.str m), (9, AVal.bool true), (10, AVal.tuple []), (11, AVal.str s), (12, AVal.str m), (13, AVal.int IntKind.i64 (↑(ByteArray.size m) : Int)), (14, AVal.str (ByteArray.extract s (Int.toNat (↑(ByteArray.size m) : Int)) (Int.toNat (↑(ByteArray.size s) : Int)))), (15, AVal.slc false 0 1 0 11 none), (16, AVal.tuple []), (17, AVal.str s2), (18, AVal.bool (ByteArray.toList s2 == ByteArray.toList (ByteArray.mk #[]))), (19, AVal.tuple [])]) ([AObj.rows false 1 (flM 1), AObj.rows true 11 [v0], AObj.rows true 1 [[AVal.str s2]], AObj.rows true 1 [[AVal.int IntKind.i64 0]]]) ([]) (tr 2 ++ ((Owed.use (owed Try.prog 4) 58 [] [AVal.bool (ByteArray.toList s2 == ByteArray.toList (ByteArray.mk #[]))] [AObj.rows false 1 (flM 1), AObj.rows true 11 [v0], AObj.rows true 1 [[AVal.str s2]], AObj.rows true 1 [[AVal.int IntKind.i64 0]]] [AVal.bool (ByteArray.toList s2 == ByteArray.toList (ByteArray.mk #[]))] [] (AVal.tuple []) []) :: (tr 3 ++ ((Owed.use (owed Try.prog 4) 60 [2, 0, 1] [AVal.ptr 2 1 0 0, AVal.slc false 0 1 0 11 none] [AObj.rows false 1 (flM 1), AObj.rows true 11 [u0], AObj.rows true 1 [[AVal.str (ByteArray.extract s (Int.toNat (↑(ByteArray.size m) : Int)) (Int.toNat (↑(ByteArray.size s) : Int)))]], AObj.rows true 1 [[AVal.int IntKind.i64 0]]] [AVal.ptr 0 1 0 0, AVal.slc false 1 1 0 11 none] [AObj.rows true 1 [[AVal.str (ByteArray.extract s (Int.toNat (↑(ByteArray.size m) : Int)) (Int.toNat (↑(ByteArray.size s) : Int)))]], AObj.rows false 1 (flM 2), AObj.rows true 11 [u0]] (AVal.tuple []) [AObj.rows true 1 [[AVal.str s2]], AObj.rows false 1 (flM 2), AObj.rows true 11 [v0]]) :: (tr 2 ++ ((decide (0 ≤ (↑(ByteArray.size m) : Int) ∧ (↑(ByteArray.size m) : Int) ≤ (↑(ByteArray.size s) : Int) ∧ (↑(ByteArray.size s) : Int) ≤ (↑(ByteArray.size s) : Int)) = true) :: (tr 3 ++ ((Owed.use (owed Try.prog 4) 58 [] [AVal.bool true] [AObj.rows false 1 (flM 1), AObj.rows true 11 [u0], AObj.rows true 1 [[AVal.str s]], AObj.rows true 1 [[AVal.int IntKind.i64 0]]] [AVal.bool true] [] (AVal.tuple []) []) :: ((Owed.use (owed Try.prog 4) 59 [] [AVal.str s, AVal.str m] [AObj.rows false 1 (flM 1), AObj.rows true 11 [u0], AObj.rows true 1 [[AVal.str s]], AObj.rows true 1 [[AVal.int IntKind.i64 0]]] [AVal.str s, AVal.str m] [] (AVal.bool true) []) :: (tr 3 ++ []))))))))))) followed (by kernel_rfl) (allP_of (trC 2 ⟨⟨h1, rfl, rfl, rfl⟩, (trC 3 ⟨⟨h2, rfl, rfl, rfl⟩, (trC 2 ⟨h3, (trC 3 ⟨⟨h4, rfl, rfl, rfl⟩, ⟨⟨h5, rfl, rfl, rfl⟩, (trC 3 trivial)⟩⟩)⟩)⟩)⟩)) (keepM 20 [6]) ([0, 1, 2, 3]) (by kernel_rfl) (by kernel_rfl) (by kernel_rfl)

theorem rFeM_1 (u0 v0 : List AVal) (m s s2 : ByteArray) (b : Bool)
    (h1 : FOk Try.prog 58 [AVal.bool (ByteArray.toList s2 == ByteArray.toList (ByteArray.mk #[]))] [] (AVal.pan 117) [])
    (h2 : FOk Try.prog 60 [AVal.ptr 0 1 0 0, AVal.slc false 1 1 0 11 none] [AObj.rows true 1 [[AVal.str (ByteArray.extract s (Int.toNat (↑(ByteArray.size m) : Int)) (Int.toNat (↑(ByteArray.size s) : Int)))]], AObj.rows false 1 (flM 2), AObj.rows true 11 [u0]] (AVal.tuple []) [AObj.rows true 1 [[AVal.str s2]], AObj.rows false 1 (flM 2), AObj.rows true 11 [v0]])
    (h3 : decide (0 ≤ (↑(ByteArray.size m) : Int) ∧ (↑(ByteArray.size m) : Int) ≤ (↑(ByteArray.size s) : Int) ∧ (↑(ByteArray.size s) : Int) ≤ (↑(ByteArray.size s) : Int)) = true)
    (h4 : FOk Try.prog 58 [AVal.bool true] [] (AVal.tuple []) [])
    (h5 : FOk Try.prog 59 [AVal.str s, AVal.str m] [] (AVal.bool true) []) :
    TripN Try.prog 4 (codeTail (codeTail (bodyOf Try.f40))) (mkR 20 [(1, AVal.str m), (2, AVal.slc false 0 1 0 11 none), (3, AVal.ptr 2 1 0 0), (6, AVal.ptr 3 1 0 0)]) ([AObj.rows false 1 (flM 1), AObj.rows true 11 [u0], AObj.rows true 1 [[AVal.str s]], AObj.rows true 1 [[AVal.int IntKind.i64 0]]]) (AExit.pan 117) (mkR 20 [(6, AVal.ptr 3 1 0 0)]) ([AObj.rows false 1 (flM 1), AObj.rows true 11 [v0], AObj.rows true 1 [[AVal.str s2]], AObj.rows true 1 [[AVal.int IntKind.i64 0]]]) :=
  evalT (st := St.mk (mkR 20 [(1, AVal.str m), (2, AVal.slc false 0 1 0 11 none), (3, AVal.ptr 2 1 0 0), (6, AVal.ptr 3 1 0 0)]) ([AObj.rows false 1 (flM 1), AObj.rows true 11 [u0], AObj.rows true 1 [[AVal.str s]], AObj.rows true 1 [[AVal.int IntKind.i64 0]]]) ([Dec.use [] [AVal.str s, AVal.str m] [] (AVal.bool true) [], Dec.use [] [AVal.bool true] [] (AVal.tuple []) [], Dec.use [2, 0, 1] [AVal.ptr 0 1 0 0, AVal.slc false 1 1 0 11 none] [AObj.rows true 1 [[AVal.str (ByteArray.extract s (Int.toNat (↑(ByteArray.size m) : Int)) (Int.toNat (↑(ByteArray.size s) : Int)))]], AObj.rows false 1 (flM 2), AObj.rows true 11 [u0]] (AVal.tuple []) [AObj.rows true 1 [[AVal.str s2]], AObj.rows false 1 (flM 2), AObj.rows true 11 [v0]], Dec.use [] [AVal.bool (ByteArray.toList s2 == ByteArray.toList (ByteArray.mk #[]))] [] (AVal.pan 117) []]) []) (st' := St.mk (mkR 20 [(1, AVal.str m), (2, AVal.slc false 0 1 0 11 none), (3, AVal.ptr 2 1 0 0), (6, AVal.ptr 3 1 0 0), (7, AVal.str s), (8, AVal.str m), (9, AVal.bool true), (10, AVal.tuple []), (11, AVal.str s), (12, AVal.str m), (13, AVal.int IntKind.i64 (↑(ByteArray.size m) : Int)), (14, AVal.str (ByteArray.extract s (Int.toNat (↑(ByteArray.size m) : Int)) (Int.toNat (↑(ByteArray.size s) : Int)))), (15, AVal.slc false 0 1 0 11 none), (16, AVal.tuple []), (17, AVal.str s2), (18, AVal.bool (ByteArray.toList s2 == ByteArray.toList (ByteArray.mk #[])))]) ([AObj.rows false 1 (flM 1), AObj.rows true 11 [v0], AObj.rows true 1 [[AVal.str s2]], AObj.rows true 1 [[AVal.int IntKind.i64 0]]]) ([]) ((Owed.use (owed Try.prog 4) 58 [] [AVal.bool (ByteArray.toList s2 == ByteArray.toList (ByteArray.mk #[]))] [AObj.rows false 1 (flM 1), AObj.rows true 11 [v0], AObj.rows true 1 [[AVal.str s2]], AObj.rows true 1 [[AVal.int IntKind.i64 0]]] [AVal.bool (ByteArray.toList s2 == ByteArray.toList (ByteArray.mk #[]))] [] (AVal.pan 117) []) :: (tr 3 ++ ((Owed.use (owed Try.prog 4) 60 [2, 0, 1] [AVal.ptr 2 1 0 0, AVal.slc false 0 1 0 11 none] [AObj.rows false 1 (flM 1), AObj.rows true 11 [u0], AObj.rows true 1 [[AVal.str (ByteArray.extract s (Int.toNat (↑(ByteArray.size m) : Int)) (Int.toNat (↑(ByteArray.size s) : Int)))]], AObj.rows true 1 [[AVal.int IntKind.i64 0]]] [AVal.ptr 0 1 0 0, AVal.slc false 1 1 0 11 none] [AObj.rows true 1 [[AVal.str (ByteArray.extract s (Int.toNat (↑(ByteArray.size m) : Int)) (Int.toNat (↑(ByteArray.size s) : Int)))]], AObj.rows false 1 (flM 2), AObj.rows true 11 [u0]] (AVal.tuple []) [AObj.rows true 1 [[AVal.str s2]], AObj.rows false 1 (flM 2), AObj.rows true 11 [v0]]) :: (tr 2 ++ ((decide (0 ≤ (↑(ByteArray.size m) : Int) ∧ (↑(ByteArray.size m) : Int) ≤ (↑(ByteArray.size s) : Int) ∧ (↑(ByteArray.size s) : Int) ≤ (↑(ByteArray.size s) : Int)) = true) :: (tr 3 ++ ((Owed.use (owed Try.prog 4) 58 [] [AVal.bool true] [AObj.rows false 1 (flM 1), AObj.rows true 11 [u0], AObj.rows true 1 [[AVal.str s]], AObj.rows true 1 [[AVal.int IntKind.i64 0]]] [AVal.bool true] [] (AVal.tuple []) []) :: ((Owed.use (owed Try.prog 4) 59 [] [AVal.str s, AVal.str m] [AObj.rows false 1 (flM 1), AObj.rows true 11 [u0], AObj.rows true 1 [[AVal.str s]], AObj.rows true 1 [[AVal.int IntKind.i64 0]]] [AVal.str s, AVal.str m] [] (AVal.bool true) []) :: (tr 3 ++ [])))))))))) followed (by kernel_rfl) (allP_of ⟨⟨h1, rfl, rfl, rfl⟩, (trC 3 ⟨⟨h2, rfl, rfl, rfl⟩, (trC 2 ⟨h3, (trC 3 ⟨⟨h4, rfl, rfl, rfl⟩, ⟨⟨h5, rfl, rfl, rfl⟩, (trC 3 trivial)⟩⟩)⟩)⟩)⟩) (keepM 20 [6]) ([0, 1, 2, 3]) (by kernel_rfl) (by kernel_rfl) (by kernel_rfl)

theorem rFnM_1 (u0 : List AVal) (m s : ByteArray)
    (h1 : FOk Try.prog 60 [AVal.ptr 0 1 0 0, AVal.slc false 1 1 0 11 none] [AObj.rows true 1 [[AVal.str (ByteArray.extract s (Int.toNat (↑(ByteArray.size m) : Int)) (Int.toNat (↑(ByteArray.size s) : Int)))]], AObj.rows false 1 (flM 2), AObj.rows true 11 [u0]] (AVal.pan 117) [AObj.dead, AObj.dead, AObj.dead])
    (h2 : decide (0 ≤ (↑(ByteArray.size m) : Int) ∧ (↑(ByteArray.size m) : Int) ≤ (↑(ByteArray.size s) : Int) ∧ (↑(ByteArray.size s) : Int) ≤ (↑(ByteArray.size s) : Int)) = true)
    (h3 : FOk Try.prog 58 [AVal.bool true] [] (AVal.tuple []) [])
    (h4 : FOk Try.prog 59 [AVal.str s, AVal.str m] [] (AVal.bool true) []) :
    TripN Try.prog 4 (codeTail (codeTail (bodyOf Try.f40))) (mkR 20 [(1, AVal.str m), (2, AVal.slc false 0 1 0 11 none), (3, AVal.ptr 2 1 0 0), (6, AVal.ptr 3 1 0 0)]) ([AObj.rows false 1 (flM 1), AObj.rows true 11 [u0], AObj.rows true 1 [[AVal.str s]], AObj.rows true 1 [[AVal.int IntKind.i64 0]]]) (AExit.pan 117) (mkR 20 [(6, AVal.ptr 3 1 0 0)]) ([AObj.dead, AObj.dead, AObj.dead, AObj.rows true 1 [[AVal.int IntKind.i64 0]]]) :=
  evalT (st := St.mk (mkR 20 [(1, AVal.str m), (2, AVal.slc false 0 1 0 11 none), (3, AVal.ptr 2 1 0 0), (6, AVal.ptr 3 1 0 0)]) ([AObj.rows false 1 (flM 1), AObj.rows true 11 [u0], AObj.rows true 1 [[AVal.str s]], AObj.rows true 1 [[AVal.int IntKind.i64 0]]]) ([Dec.use [] [AVal.str s, AVal.str m] [] (AVal.bool true) [], Dec.use [] [AVal.bool true] [] (AVal.tuple []) [], Dec.use [2, 0, 1] [AVal.ptr 0 1 0 0, AVal.slc false 1 1 0 11 none] [AObj.rows true 1 [[AVal.str (ByteArray.extract s (Int.toNat (↑(ByteArray.size m) : Int)) (Int.toNat (↑(ByteArray.size s) : Int)))]], AObj.rows false 1 (flM 2), AObj.rows true 11 [u0]] (AVal.pan 117) [AObj.dead, AObj.dead, AObj.dead]]) []) (st' := St.mk (mkR 20 [(1, AVal.str m), (2, AVal.slc false 0 1 0 11 none), (3, AVal.ptr 2 1 0 0), (6, AVal.ptr 3 1 0 0), (7, AVal.str s), (8, AVal.str m), (9, AVal.bool true), (10, AVal.tuple []), (11, AVal.str s), (12, AVal.str m), (13, AVal.int IntKind.i64 (↑(ByteArray.size m) : Int)), (14, AVal.str (ByteArray.extract s (Int.toNat (↑(ByteArray.size m) : Int)) (Int.toNat (↑(ByteArray.size s) : Int)))), (15, AVal.slc false 0 1 0 11 none)]) ([AObj.dead, AObj.dead, AObj.dead, AObj.rows true 1 [[AVal.int IntKind.i64 0]]]) ([]) ((Owed.use (owed Try.prog 4) 60 [2, 0, 1] [AVal.ptr 2 1 0 0, AVal.slc false 0 1 0 11 none] [AObj.rows false 1 (flM 1), AObj.rows true 11 [u0], AObj.rows true 1 [[AVal.str (ByteArray.extract s (Int.toNat (↑(ByteArray.size m) : Int)) (Int.toNat (↑(ByteArray.size s) : Int)))]], AObj.rows true 1 [[AVal.int IntKind.i64 0]]] [AVal.ptr 0 1 0 0, AVal.slc false 1 1 0 11 none] [AObj.rows true 1 [[AVal.str (ByteArray.extract s (Int.toNat (↑(ByteArray.size m) : Int)) (Int.toNat (↑(ByteArray.size s) : Int)))]], AObj.rows false 1 (flM 2), AObj.rows true 11 [u0]] (AVal.pan 117) [AObj.dead, AObj.dead, AObj.dead]) :: (tr 2 ++ ((decide (0 ≤ (↑(ByteArray.size m) : Int) ∧ (↑(ByteArray.size m) : Int) ≤ (↑(ByteArray.size s) : Int) ∧ (↑(ByteArray.size s) : Int) ≤ (↑(ByteArray.size s) : Int)) = true) :: (tr 3 ++ ((Owed.use (owed Try.prog 4) 58 [] [AVal.bool true] [AObj.rows false 1 (flM 1), AObj.rows true 11 [u0], AObj.rows true 1 [[AVal.str s]], AObj.rows true 1 [[AVal.int IntKind.i64 0]]] [AVal.bool true] [] (AVal.tuple []) []) :: ((Owed.use (owed Try.prog 4) 59 [] [AVal.str s, AVal.str m] [AObj.rows false 1 (flM 1), AObj.rows true 11 [u0], AObj.rows true 1 [[AVal.str s]], AObj.rows true 1 [[AVal.int IntKind.i64 0]]] [AVal.str s, AVal.str m] [] (AVal.bool true) []) :: (tr 3 ++ [])))))))) followed (by kernel_rfl) (allP_of ⟨⟨h1, rfl, rfl, rfl⟩, (trC 2 ⟨h2, (trC 3 ⟨⟨h3, rfl, rfl, rfl⟩, ⟨⟨h4, rfl, rfl, rfl⟩, (trC 3 trivial)⟩⟩)⟩)⟩) (keepM 20 [6]) ([0, 1, 2, 3]) (by kernel_rfl) (by kernel_rfl) (by kernel_rfl)

theorem rFpM_1 (u0 : List AVal) (m s : ByteArray)
    (h1 : FOk Try.prog 58 [AVal.bool false] [] (AVal.pan 117) [])
    (h2 : FOk Try.prog 59 [AVal.str s, AVal.str m] [] (AVal.bool false) []) :
    TripN Try.prog 4 (codeTail (codeTail (bodyOf Try.f40))) (mkR 20 [(1, AVal.str m), (2, AVal.slc false 0 1 0 11 none), (3, AVal.ptr 2 1 0 0), (6, AVal.ptr 3 1 0 0)]) ([AObj.rows false 1 (flM 1), AObj.rows true 11 [u0], AObj.rows true 1 [[AVal.str s]], AObj.rows true 1 [[AVal.int IntKind.i64 0]]]) (AExit.pan 117) (mkR 20 [(6, AVal.ptr 3 1 0 0)]) ([AObj.rows false 1 (flM 1), AObj.rows true 11 [u0], AObj.rows true 1 [[AVal.str s]], AObj.rows true 1 [[AVal.int IntKind.i64 0]]]) :=
  evalT (st := St.mk (mkR 20 [(1, AVal.str m), (2, AVal.slc false 0 1 0 11 none), (3, AVal.ptr 2 1 0 0), (6, AVal.ptr 3 1 0 0)]) ([AObj.rows false 1 (flM 1), AObj.rows true 11 [u0], AObj.rows true 1 [[AVal.str s]], AObj.rows true 1 [[AVal.int IntKind.i64 0]]]) ([Dec.use [] [AVal.str s, AVal.str m] [] (AVal.bool false) [], Dec.use [] [AVal.bool false] [] (AVal.pan 117) []]) []) (st' := St.mk (mkR 20 [(1, AVal.str m), (2, AVal.slc false 0 1 0 11 none), (3, AVal.ptr 2 1 0 0), (6, AVal.ptr 3 1 0 0), (7, AVal.str s), (8, AVal.str m), (9, AVal.bool false)]) ([AObj.rows false 1 (flM 1), AObj.rows true 11 [u0], AObj.rows true 1 [[AVal.str s]], AObj.rows true 1 [[AVal.int IntKind.i64 0]]]) ([]) ((Owed.use (owed Try.prog 4) 58 [] [AVal.bool false] [AObj.rows false 1 (flM 1), AObj.rows true 11 [u0], AObj.rows true 1 [[AVal.str s]], AObj.rows true 1 [[AVal.int IntKind.i64 0]]] [AVal.bool false] [] (AVal.pan 117) []) :: ((Owed.use (owed Try.prog 4) 59 [] [AVal.str s, AVal.str m] [AObj.rows false 1 (flM 1), AObj.rows true 11 [u0], AObj.rows true 1 [[AVal.str s]], AObj.rows true 1 [[AVal.int IntKind.i64 0]]] [AVal.str s, AVal.str m] [] (AVal.bool false) []) :: (tr 3 ++ [])))) followed (by kernel_rfl) (allP_of ⟨⟨h1, rfl, rfl, rfl⟩, ⟨⟨h2, rfl, rfl, rfl⟩, (trC 3 trivial)⟩⟩) (keepM 20 [6]) ([0, 1, 2, 3]) (by kernel_rfl) (by kernel_rfl) (by kernel_rfl)

end Go.L12.D
end

section
set_option linter.unusedVariables false
set_option linter.unusedSimpArgs false
set_option maxRecDepth 100000
namespace Go.L12
open Go Go.Abs Go.Proofs

theorem triedM_ok (u0 : List AVal) (k k2 : Nat) (bs bs2 : List (List AVal)) (h : FOk Try.prog 64 [.ptr 0 2 0 0, .slc false 1 1 0 11 none] [.rows false 2 [[.ptr 0 2 0 0, .slc false 2 1 0 k none]], .rows false 1 (flM 3), .trows 5 true 1 bs, .rows true 11 [u0]] (.tuple []) [.rows false 2 [[.ptr 0 2 0 0, .slc false 4 1 0 k2 none]], .rows false 1 (flM 3), .dead, .rows true 11 [u0], .trows 5 true 1 bs2]) :
    FOk Try.prog 53 [.ptr 0 2 0 0, .slc false 1 1 0 11 none] [.rows false 2 [[.ptr 0 2 0 0, .slc false 2 1 0 k none]], .rows false 1 (flM 3), .trows 5 true 1 bs, .rows true 11 [u0]] (.int .i64 0) [.rows false 2 [[.ptr 0 2 0 0, .slc false 4 1 0 k2 none]], .rows false 1 (flM 3), .dead, .rows true 11 [u0], .trows 5 true 1 bs2] :=
  (defer_calls (P := Try.prog) (f := 53) (fn := Try.f53) (c0 := .seq (codeHd (bodyOf Try.f53)) (.seq (.region 1 #[firstOp (codeTail (bodyOf Try.f53))] false) (codeTail (codeTail (bodyOf Try.f53))))) (rest := codeTail (codeTail (bodyOf Try.f53))) (blk := codeTail (bodyOf Try.f57)) (dop := firstOp (codeTail (bodyOf Try.f53))) (rop := firstOp (bodyOf Try.f57)) (gn := Try.f57) (g := 57) (no := 1) (k := 4) (kk := 7) (id := 4) (rid := 1) (rid2 := 0) (ts := #[102, 26]) (tsr := #[]) (xs := [.ptr 0 2 0 0, .slc false 1 1 0 11 none]) (σ := [.rows false 2 [[.ptr 0 2 0 0, .slc false 2 1 0 k none]], .rows false 1 (flM 3), .trows 5 true 1 bs, .rows true 11 [u0]]) (σ1 := [.rows false 2 [[.ptr 0 2 0 0, .slc false 2 1 0 k none]], .rows false 1 (flM 3), .trows 5 true 1 bs, .rows true 11 [u0], .rows true 1 [[.int .i64 0]]]) (y := ([.int .i64 0], tr 3 ++ []))
    rfl Try.func53 (by kernel_rfl) (by kernel_rfl) (by kernel_rfl) (by kernel_rfl) (by kernel_rfl) Try.func57 (by kernel_rfl) (by kernel_rfl) (by kernel_rfl) (by kernel_rfl) (by kernel_rfl) (by kernel_rfl)
    (Pre.one (hTM_1 u0 k bs)) (fun ds => @D.rTM_1 ⟨ds⟩ u0 k k2 bs bs2 h) (by kernel_rfl) (.inl ⟨rfl, rfl⟩) (bTM_1 u0 k2 bs2) (by kernel_rfl) tr3).move [0, 1, 2, 3, 5] (by kernel_rfl) (by kernel_rfl) (by kernel_rfl)
theorem fromM_ok (u0 v0 : List AVal) (s m : ByteArray) (hp : (lB m <+: lB s)) (h : FOk Try.prog 60 [.ptr 0 1 0 0, .slc false 1 1 0 11 none] [.rows true 1 [[.str (s.extract m.size s.size)]], .rows false 1 (flM 2), .rows true 11 [u0]] (.tuple []) [.rows true 1 [[.str ⟨#[]⟩]], .rows false 1 (flM 2), .rows true 11 [v0]]) :
    FOk Try.prog 40 [.str s, .str m, .slc false 0 1 0 11 none] [.rows false 1 (flM 1), .rows true 11 [u0]] (.int .i64 0) [.rows false 1 (flM 1), .rows true 11 [v0]] :=
  have hl := hp.length_le
  have hl : m.size ≤ s.size := by rw [lB_length, lB_length] at hl; exact hl
  (defer_calls (P := Try.prog) (f := 40) (fn := Try.f40) (c0 := .seq (codeHd (bodyOf Try.f40)) (.seq (.region 1 #[firstOp (codeTail (bodyOf Try.f40))] false) (codeTail (codeTail (bodyOf Try.f40))))) (rest := codeTail (codeTail (bodyOf Try.f40))) (blk := codeTail (bodyOf Try.f57)) (dop := firstOp (codeTail (bodyOf Try.f40))) (rop := firstOp (bodyOf Try.f57)) (gn := Try.f57) (g := 57) (no := 140) (k := 6) (kk := 7) (id := 3) (rid := 1) (rid2 := 0) (ts := #[102, 26]) (tsr := #[]) (xs := [.str s, .str m, .slc false 0 1 0 11 none]) (σ := [.rows false 1 (flM 1), .rows true 11 [u0]]) (σ1 := [.rows false 1 (flM 1), .rows true 11 [u0], .rows true 1 [[.str s]], .rows true 1 [[.int .i64 0]]]) (y := ([.int .i64 0], tr 3 ++ []))
    rfl Try.func40 (by kernel_rfl) (by kernel_rfl) (by kernel_rfl) (by kernel_rfl) (by kernel_rfl) Try.func57 (by kernel_rfl) (by kernel_rfl) (by kernel_rfl) (by kernel_rfl) (by kernel_rfl) (by kernel_rfl)
    (Pre.one (hFM_1 u0 s m)) (fun ds => @D.rFM_1 ⟨ds⟩ u0 v0 m s ⟨#[]⟩ true (right_ok _ (by simp)) h (decide_eq_true (by omega)) (right_ok _ rfl) (by have := hasPrefix_ok s m; rw [decide_eq_true hp] at this; exact this)) (by kernel_rfl) (.inl ⟨rfl, rfl⟩) (bFM_1 v0 ⟨#[]⟩) (by kernel_rfl) tr3).move [0, 1] (by kernel_rfl) (by kernel_rfl) (by kernel_rfl)
theorem fromM_more (u0 v0 : List AVal) (s m s2 : ByteArray) (hp : (lB m <+: lB s)) (h2 : s2.size ≠ 0) (h : FOk Try.prog 60 [.ptr 0 1 0 0, .slc false 1 1 0 11 none] [.rows true 1 [[.str (s.extract m.size s.size)]], .rows false 1 (flM 2), .rows true 11 [u0]] (.tuple []) [.rows true 1 [[.str s2]], .rows false 1 (flM 2), .rows true 11 [v0]]) :
    FOk Try.prog 40 [.str s, .str m, .slc false 0 1 0 11 none] [.rows false 1 (flM 1), .rows true 11 [u0]] (.int .i64 140) [.dead, .dead] :=
  have hl := hp.length_le
  have hl : m.size ≤ s.size := by rw [lB_length, lB_length] at hl; exact hl
  have hne : (s2.toList == (ByteArray.mk #[]).toList) = false := by
    rw [toList_lB, toList_lB, beq_eq_false_iff_ne]
    intro e
    have := lB_inj e
    subst this
    exact h2 rfl
  (defer_calls (P := Try.prog) (f := 40) (fn := Try.f40) (c0 := .seq (codeHd (bodyOf Try.f40)) (.seq (.region 1 #[firstOp (codeTail (bodyOf Try.f40))] false) (codeTail (codeTail (bodyOf Try.f40))))) (rest := codeTail (codeTail (bodyOf Try.f40))) (blk := codeTail (bodyOf Try.f57)) (dop := firstOp (codeTail (bodyOf Try.f40))) (rop := firstOp (bodyOf Try.f57)) (gn := Try.f57) (g := 57) (no := 140) (k := 6) (kk := 7) (id := 3) (rid := 1) (rid2 := 0) (ts := #[102, 26]) (tsr := #[]) (xs := [.str s, .str m, .slc false 0 1 0 11 none]) (σ := [.rows false 1 (flM 1), .rows true 11 [u0]]) (σ1 := [.rows false 1 (flM 1), .rows true 11 [u0], .rows true 1 [[.str s]], .rows true 1 [[.int .i64 0]]]) (y := ([.int .i64 140], tr 3 ++ []))
    rfl Try.func40 (by kernel_rfl) (by kernel_rfl) (by kernel_rfl) (by kernel_rfl) (by kernel_rfl) Try.func57 (by kernel_rfl) (by kernel_rfl) (by kernel_rfl) (by kernel_rfl) (by kernel_rfl) (by kernel_rfl)
    (Pre.one (hFM_1 u0 s m)) (fun ds => @TripN.deadH (@dsG ⟨ds⟩) _ _ _ _ _ _ _ _ (@D.rFeM_1 ⟨ds⟩ u0 v0 m s s2 true (right_no _ hne) h (decide_eq_true (by omega)) (right_ok _ rfl) (by have := hasPrefix_ok s m; rw [decide_eq_true hp] at this; exact this)) [true, true, true]) (by kernel_rfl) (.inr ⟨117, rfl, rfl⟩) (bFnM_1 0) (by kernel_rfl) tr3).move [0, 1] (by kernel_rfl) (by kernel_rfl) (by kernel_rfl)
theorem fromM_no (u0 : List AVal) (s m : ByteArray) (hp : (lB m <+: lB s)) (h : FOk Try.prog 60 [.ptr 0 1 0 0, .slc false 1 1 0 11 none] [.rows true 1 [[.str (s.extract m.size s.size)]], .rows false 1 (flM 2), .rows true 11 [u0]] (.pan 117) [.dead, .dead, .dead]) :
    FOk Try.prog 40 [.str s, .str m, .slc false 0 1 0 11 none] [.rows false 1 (flM 1), .rows true 11 [u0]] (.int .i64 140) [.dead, .dead] :=
  have hl := hp.length_le
  have hl : m.size ≤ s.size := by rw [lB_length, lB_length] at hl; exact hl
  (defer_calls (P := Try.prog) (f := 40) (fn := Try.f40) (c0 := .seq (codeHd (bodyOf Try.f40)) (.seq (.region 1 #[firstOp (codeTail (bodyOf Try.f40))] false) (codeTail (codeTail (bodyOf Try.f40))))) (rest := codeTail (codeTail (bodyOf Try.f40))) (blk := codeTail (bodyOf Try.f57)) (dop := firstOp (codeTail (bodyOf Try.f40))) (rop := firstOp (bodyOf Try.f57)) (gn := Try.f57) (g := 57) (no := 140) (k := 6) (kk := 7) (id := 3) (rid := 1) (rid2 := 0) (ts := #[102, 26]) (tsr := #[]) (xs := [.str s, .str m, .slc false 0 1 0 11 none]) (σ := [.rows false 1 (flM 1), .rows true 11 [u0]]) (σ1 := [.rows false 1 (flM 1), .rows true 11 [u0], .rows true 1 [[.str s]], .rows true 1 [[.int .i64 0]]]) (y := ([.int .i64 140], tr 3 ++ []))
    rfl Try.func40 (by kernel_rfl) (by kernel_rfl) (by kernel_rfl) (by kernel_rfl) (by kernel_rfl) Try.func57 (by kernel_rfl) (by kernel_rfl) (by kernel_rfl) (by kernel_rfl) (by kernel_rfl) (by kernel_rfl)
    (Pre.one (hFM_1 u0 s m)) (fun ds => @D.rFnM_1 ⟨ds⟩ u0 m s h (decide_eq_true (by omega)) (right_ok _ rfl) (by have := hasPrefix_ok s m; rw [decide_eq_true hp] at this; exact this)) (by kernel_rfl) (.inr ⟨117, rfl, rfl⟩) (bFnM_1 0) (by kernel_rfl) tr3).move [0, 1] (by kernel_rfl) (by kernel_rfl) (by kernel_rfl)
theorem fromM_mark (u0 : List AVal) (s m : ByteArray) (hp : ¬ (lB m <+: lB s)) :
    FOk Try.prog 40 [.str s, .str m, .slc false 0 1 0 11 none] [.rows false 1 (flM 1), .rows true 11 [u0]] (.int .i64 140) [.dead, .dead] :=
  (defer_calls (P := Try.prog) (f := 40) (fn := Try.f40) (c0 := .seq (codeHd (bodyOf Try.f40)) (.seq (.region 1 #[firstOp (codeTail (bodyOf Try.f40))] false) (codeTail (codeTail (bodyOf Try.f40))))) (rest := codeTail (codeTail (bodyOf Try.f40))) (blk := codeTail (bodyOf Try.f57)) (dop := firstOp (codeTail (bodyOf Try.f40))) (rop := firstOp (bodyOf Try.f57)) (gn := Try.f57) (g := 57) (no := 140) (k := 6) (kk := 7) (id := 3) (rid := 1) (rid2 := 0) (ts := #[102, 26]) (tsr := #[]) (xs := [.str s, .str m, .slc false 0 1 0 11 none]) (σ := [.rows false 1 (flM 1), .rows true 11 [u0]]) (σ1 := [.rows false 1 (flM 1), .rows true 11 [u0], .rows true 1 [[.str s]], .rows true 1 [[.int .i64 0]]]) (y := ([.int .i64 140], tr 3 ++ []))
    rfl Try.func40 (by kernel_rfl) (by kernel_rfl) (by kernel_rfl) (by kernel_rfl) (by kernel_rfl) Try.func57 (by kernel_rfl) (by kernel_rfl) (by kernel_rfl) (by kernel_rfl) (by kernel_rfl) (by kernel_rfl)
    (Pre.one (hFM_1 u0 s m)) (fun ds => @TripN.deadH (@dsG ⟨ds⟩) _ _ _ _ _ _ _ _ (@D.rFpM_1 ⟨ds⟩ u0 m s (right_no _ rfl) (by have := hasPrefix_ok s m; rw [decide_eq_false hp] at this; exact this)) [true, true, true]) (by kernel_rfl) (.inr ⟨117, rfl, rfl⟩) (bFnM_1 0) (by kernel_rfl) tr3).move [0, 1] (by kernel_rfl) (by kernel_rfl) (by kernel_rfl)
end Go.L12
end

section
set_option linter.unusedVariables false
set_option linter.unusedSimpArgs false
set_option maxRecDepth 100000
namespace Go.L12
open Go Go.Abs Go.Proofs

theorem wsM_ok : FOk Try.prog 52 [.ptr 0 2 0 0, .str ⟨#[77]⟩] [.trows 94 false 2 [[.nilp, .fsl true 0 [] (some 0)]]] (.tuple [.int .i64 1, .nili]) [.rows false 2 [[.ptr 0 2 0 0, .slc false 1 1 0 1 none]], .trows 5 true 1 [brow 77]] := ws0_1 ⟨#[77]⟩ (by decide)
end Go.L12
end

section
set_option linter.unusedVariables false
set_option linter.unusedSimpArgs false
set_option maxRecDepth 100000
namespace Go.L12
open Go Go.Abs Go.Proofs

theorem fldM_1 (m0 m1 m2 m3 m4 m5 m6 m8 : Int) (m9 : Bool) (m10 : ByteArray) (nb : Bool) (rs : List (List AVal)) :
    FOk Try.prog 47 ([AVal.ptr 0 11 0 0]) ([AObj.rows false 11 [rM m0 m1 m2 m3 m4 m5 m6 (AVal.fsl nb 2 rs none) m8 m9 m10]]) (AVal.slc false 1 1 0 11 (some 11)) ([AObj.rows false 11 [(rM m0 m1 m2 m3 m4 m5 m6 (AVal.fsl nb 2 rs none) m8 m9 m10)], AObj.rows false 1 (flM 0)]) :=
  (evalF_ok followed Try.func47 (by kernel_rfl) (show evalF Try.prog Try.f47 ([AVal.ptr 0 11 0 0]) ([AObj.rows false 11 [rM m0 m1 m2 m3 m4 m5 m6 (AVal.fsl nb 2 rs none) m8 m9 m10]]) ([]) = .ok (FRes.mk (AVal.slc false 1 1 0 11 (some 11)) ([AObj.rows false 11 [(rM m0 m1 m2 m3 m4 m5 m6 (AVal.fsl nb 2 rs none) m8 m9 m10)], AObj.rows false 1 (flM 0)]) (tr 93 ++ [])) by kernel_rfl) (allP_of (trC 93 trivial))).move ([0, 1]) (by kernel_rfl) (by kernel_rfl) (by kernel_rfl)

theorem fldzM_1 (z : Int) :
    FOk Try.prog 47 ([AVal.ptr 0 11 0 0]) ([AObj.rows false 11 [[AVal.int IntKind.i64 z, AVal.int IntKind.i64 0, AVal.int IntKind.i64 0, AVal.int IntKind.i64 0, AVal.int IntKind.i64 0, AVal.int IntKind.i64 0, AVal.int IntKind.i64 0, AVal.fsl true 0 [] (some 0), AVal.int IntKind.i64 0, AVal.tt false, AVal.str (ByteArray.mk #[])]]]) (AVal.slc false 1 1 0 11 (some 11)) ([AObj.rows false 11 [[AVal.int IntKind.i64 z, AVal.int IntKind.i64 0, AVal.int IntKind.i64 0, AVal.int IntKind.i64 0, AVal.int IntKind.i64 0, AVal.int IntKind.i64 0, AVal.int IntKind.i64 0, AVal.fsl true 0 [] (some 0), AVal.int IntKind.i64 0, AVal.tt false, AVal.str (ByteArray.mk #[])]], AObj.rows false 1 (flM 0)]) :=
  (evalF_ok followed Try.func47 (by kernel_rfl) (show evalF Try.prog Try.f47 ([AVal.ptr 0 11 0 0]) ([AObj.rows false 11 [[AVal.int IntKind.i64 z, AVal.int IntKind.i64 0, AVal.int IntKind.i64 0, AVal.int IntKind.i64 0, AVal.int IntKind.i64 0, AVal.int IntKind.i64 0, AVal.int IntKind.i64 0, AVal.fsl true 0 [] (some 0), AVal.int IntKind.i64 0, AVal.tt false, AVal.str (ByteArray.mk #[])]]]) ([]) = .ok (FRes.mk (AVal.slc false 1 1 0 11 (some 11)) ([AObj.rows false 11 [[AVal.int IntKind.i64 z, AVal.int IntKind.i64 0, AVal.int IntKind.i64 0, AVal.int IntKind.i64 0, AVal.int IntKind.i64 0, AVal.int IntKind.i64 0, AVal.int IntKind.i64 0, AVal.fsl true 0 [] (some 0), AVal.int IntKind.i64 0, AVal.tt false, AVal.str (ByteArray.mk #[])]], AObj.rows false 1 (flM 0)]) (tr 93 ++ [])) by kernel_rfl) (allP_of (trC 93 trivial))).move ([0, 1]) (by kernel_rfl) (by kernel_rfl) (by kernel_rfl)

theorem putM_1 (u0 : List AVal) (l : List UInt8)
    (h1 : FOk Try.prog 54 [AVal.ptr 0 2 0 0] [AObj.rows false 2 [[AVal.ptr 0 2 0 0, AVal.slc false 1 1 0 (List.length l) none]], AObj.trows 5 true 1 (rowsL l)] (AVal.str (bS l)) [AObj.rows false 2 [[AVal.ptr 0 2 0 0, AVal.slc false 1 1 0 (List.length l) none]], AObj.dead])
    (h2 : FOk Try.prog 53 [AVal.ptr 0 2 0 0, AVal.slc false 1 1 0 11 none] [AObj.rows false 2 [[AVal.ptr 0 2 0 0, AVal.slc false 2 1 0 1 none]], AObj.rows false 1 (flM 3), AObj.trows 5 true 1 [[AVal.int IntKind.u8 77]], AObj.rows true 11 [u0]] (AVal.int IntKind.i64 0) [AObj.rows false 2 [[AVal.ptr 0 2 0 0, AVal.slc false 4 1 0 (List.length l) none]], AObj.rows false 1 (flM 3), AObj.dead, AObj.rows true 11 [u0], AObj.trows 5 true 1 (rowsL l)]) :
    FOk Try.prog 33 ([AVal.str (ByteArray.mk #[77]), AVal.slc false 0 1 0 11 none]) ([AObj.rows false 1 (flM 1), AObj.rows true 11 [u0]]) (AVal.tuple [AVal.str (bS l), AVal.int IntKind.i64 0]) ([AObj.rows false 1 (flM 1), AObj.rows true 11 [u0]]) :=
  (evalF_ok followed Try.func33 (by kernel_rfl) (show evalF Try.prog Try.f33 ([AVal.str (ByteArray.mk #[77]), AVal.slc false 0 1 0 11 none]) ([AObj.rows false 1 (flM 1), AObj.rows true 11 [u0]]) ([Dec.use [2] [AVal.ptr 0 2 0 0, AVal.str (ByteArray.mk #[77])] [AObj.trows 94 false 2 [[AVal.nilp, AVal.fsl true 0 [] (some 0)]]] (AVal.tuple [AVal.int IntKind.i64 1, AVal.nili]) [AObj.rows false 2 [[AVal.ptr 0 2 0 0, AVal.slc false 1 1 0 1 none]], AObj.trows 5 true 1 [[AVal.int IntKind.u8 77]]], Dec.use [2, 0, 3, 1] [AVal.ptr 0 2 0 0, AVal.slc false 1 1 0 11 none] [AObj.rows false 2 [[AVal.ptr 0 2 0 0, AVal.slc false 2 1 0 1 none]], AObj.rows false 1 (flM 3), AObj.trows 5 true 1 [[AVal.int IntKind.u8 77]], AObj.rows true 11 [u0]] (AVal.int IntKind.i64 0) [AObj.rows false 2 [[AVal.ptr 0 2 0 0, AVal.slc false 4 1 0 (List.length l) none]], AObj.rows false 1 (flM 3), AObj.dead, AObj.rows true 11 [u0], AObj.trows 5 true 1 (rowsL l)], Dec.br false, Dec.use [2, 4] [AVal.ptr 0 2 0 0] [AObj.rows false 2 [[AVal.ptr 0 2 0 0, AVal.slc false 1 1 0 (List.length l) none]], AObj.trows 5 true 1 (rowsL l)] (AVal.str (bS l)) [AObj.rows false 2 [[AVal.ptr 0 2 0 0, AVal.slc false 1 1 0 (List.length l) none]], AObj.dead]]) = .ok (FRes.mk (AVal.tuple [AVal.str (bS l), AVal.int IntKind.i64 0]) ([AObj.rows false 1 (flM 1), AObj.rows true 11 [u0], AObj.rows false 2 [[AVal.ptr 2 2 0 0, AVal.slc false 4 1 0 (List.length l) none]], AObj.dead, AObj.dead]) ((Owed.use (owed Try.prog 2) 54 [2, 4] [AVal.ptr 2 2 0 0] [AObj.rows false 1 (flM 1), AObj.rows true 11 [u0], AObj.rows false 2 [[AVal.ptr 2 2 0 0, AVal.slc false 4 1 0 (List.length l) none]], AObj.dead, AObj.trows 5 true 1 (rowsL l)] [AVal.ptr 0 2 0 0] [AObj.rows false 2 [[AVal.ptr 0 2 0 0, AVal.slc false 1 1 0 (List.length l) none]], AObj.trows 5 true 1 (rowsL l)] (AVal.str (bS l)) [AObj.rows false 2 [[AVal.ptr 0 2 0 0, AVal.slc false 1 1 0 (List.length l) none]], AObj.dead]) :: ((false = false) :: ((Owed.use (owed Try.prog 2) 53 [2, 0, 3, 1] [AVal.ptr 2 2 0 0, AVal.slc false 0 1 0 11 none] [AObj.rows false 1 (flM 1), AObj.rows true 11 [u0], AObj.rows false 2 [[AVal.ptr 2 2 0 0, AVal.slc false 3 1 0 1 none]], AObj.trows 5 true 1 [[AVal.int IntKind.u8 77]]] [AVal.ptr 0 2 0 0, AVal.slc false 1 1 0 11 none] [AObj.rows false 2 [[AVal.ptr 0 2 0 0, AVal.slc false 2 1 0 1 none]], AObj.rows false 1 (flM 3), AObj.trows 5 true 1 [[AVal.int IntKind.u8 77]], AObj.rows true 11 [u0]] (AVal.int IntKind.i64 0) [AObj.rows false 2 [[AVal.ptr 0 2 0 0, AVal.slc false 4 1 0 (List.length l) none]], AObj.rows false 1 (flM 3), AObj.dead, AObj.rows true 11 [u0], AObj.trows 5 true 1 (rowsL l)]) :: ((Owed.use (owed Try.prog 2) 52 [2] [AVal.ptr 2 2 0 0, AVal.str (ByteArray.mk #[77])] [AObj.rows false 1 (flM 1), AObj.rows true 11 [u0], AObj.trows 94 false 2 [[AVal.nilp, AVal.fsl true 0 [] (some 0)]]] [AVal.ptr 0 2 0 0, AVal.str (ByteArray.mk #[77])] [AObj.trows 94 false 2 [[AVal.nilp, AVal.fsl true 0 [] (some 0)]]] (AVal.tuple [AVal.int IntKind.i64 1, AVal.nili]) [AObj.rows false 2 [[AVal.ptr 0 2 0 0, AVal.slc false 1 1 0 1 none]], AObj.trows 5 true 1 [[AVal.int IntKind.u8 77]]]) :: []))))) by kernel_rfl) (allP_of ⟨⟨h1, rfl, rfl, rfl⟩, ⟨rfl, ⟨⟨h2, rfl, rfl, rfl⟩, ⟨⟨(@Go.L12.wsM_ok), rfl, rfl, rfl⟩, trivial⟩⟩⟩⟩)).move ([0, 1]) (by kernel_rfl) (by kernel_rfl) (by kernel_rfl)

def putM_T (u0 : List AVal) (l : List UInt8) (Q : AVal → AState → Prop) : Prop := (FOk Try.prog 53 [AVal.ptr 0 2 0 0, AVal.slc false 1 1 0 11 none] [AObj.rows false 2 [[AVal.ptr 0 2 0 0, AVal.slc false 2 1 0 1 none]], AObj.rows false 1 (flM 3), AObj.trows 5 true 1 [[AVal.int IntKind.u8 77]], AObj.rows true 11 [u0]] (AVal.int IntKind.i64 0) [AObj.rows false 2 [[AVal.ptr 0 2 0 0, AVal.slc false 4 1 0 (List.length l) none]], AObj.rows false 1 (flM 3), AObj.dead, AObj.rows true 11 [u0], AObj.trows 5 true 1 (rowsL l)]) ∧ (FOk Try.prog 54 [AVal.ptr 0 2 0 0] [AObj.rows false 2 [[AVal.ptr 0 2 0 0, AVal.slc false 1 1 0 (List.length l) none]], AObj.trows 5 true 1 (rowsL l)] (AVal.str (bS l)) [AObj.rows false 2 [[AVal.ptr 0 2 0 0, AVal.slc false 1 1 0 (List.length l) none]], AObj.dead]) ∧ Q (AVal.tuple [AVal.str (bS l), AVal.int IntKind.i64 0]) ([AObj.rows false 1 (flM 1), AObj.rows true 11 [u0]])
theorem putM_wp (u0 : List AVal) (l : List UInt8) {Q : AVal → AState → Prop} (h : putM_T u0 l Q) : ∃ r σ', FOk Try.prog 33 ([AVal.str (ByteArray.mk #[77]), AVal.slc false 0 1 0 11 none]) ([AObj.rows false 1 (flM 1), AObj.rows true 11 [u0]]) r σ' ∧ Q r σ' :=
  ⟨_, _, putM_1 u0 l (h.2.1) (h.1), h.2.2⟩


end Go.L12
end

section
set_option linter.unusedVariables false
set_option linter.unusedSimpArgs false
set_option maxRecDepth 100000
namespace Go.L12
open Go Go.Abs Go.Proofs

theorem put33M_ok (m0 m1 m2 m3 m4 m5 m6 m8 : Int) (m9 : Bool) (m10 : ByteArray) (nb : Bool) (rs : List (List AVal)) (hk : kM m0 m1 m2 m3 m4 m5 m6 m8 rs) (b : List UInt8) (hb : seqO (fpM (rM m0 m1 m2 m3 m4 m5 m6 (.fsl nb 2 rs none) m8 m9 m10)) 11 0 = some b) :
    FOk Try.prog 33 [.str ⟨#[77]⟩, .slc false 0 1 0 11 none] [.rows false 1 (flM 1), .rows false 11 [(rM m0 m1 m2 m3 m4 m5 m6 (.fsl nb 2 rs none) m8 m9 m10)]] (.tuple [.str (bS (77 :: b)), .int .i64 0]) [.rows false 1 (flM 1), .rows false 11 [(rM m0 m1 m2 m3 m4 m5 m6 (.fsl nb 2 rs none) m8 m9 m10)]] := by
  have hlen := seqO_len (fun i b h => putF_len h) 11 0 b hb
  have hp := putsM_ok m0 m1 m2 m3 m4 m5 m6 m8 m9 m10 nb rs hk [77] b (by simp) hb
  rw [show rowsL [77] = [brow 77] from by kernel_rfl] at hp
  have ht := triedM_ok (rM m0 m1 m2 m3 m4 m5 m6 (.fsl nb 2 rs none) m8 m9 m10) 1 ([77] ++ b).length [brow 77] (rowsL ([77] ++ b)) hp
  refine FOk.preObj 1 (.rows true 11 [(rM m0 m1 m2 m3 m4 m5 m6 (.fsl nb 2 rs none) m8 m9 m10)]) ?_ (by simp) rfl (fun F w ρ b h => ORel.unpure h rfl)
  refine FOk.weakObj (σ' := [.rows false 1 (flM 1), .rows true 11 [(rM m0 m1 m2 m3 m4 m5 m6 (.fsl nb 2 rs none) m8 m9 m10)]]) ?_ 1 (.rows false 11 [(rM m0 m1 m2 m3 m4 m5 m6 (.fsl nb 2 rs none) m8 m9 m10)]) (by simp) rfl (fun F w ρ b h => ORel.lead h)
  refine FOk.wp (putM_wp (rM m0 m1 m2 m3 m4 m5 m6 (.fsl nb 2 rs none) m8 m9 m10) (77 :: b) ?_)
  unfold putM_T
  exact ⟨ht, bst_ok (77 :: b) _ (List.length_map _).symm (by simp) (by simp; omega), rfl, rfl⟩
end Go.L12
end

section
set_option linter.unusedVariables false
set_option linter.unusedSimpArgs false
set_option maxRecDepth 100000
namespace Go.L12
open Go Go.Abs Go.Proofs

theorem PutM_1 (m0 m1 m2 m3 m4 m5 m6 m8 : Int) (m9 : Bool) (m10 : ByteArray) (nb : Bool) (rs : List (List AVal)) (s : ByteArray) (e : Int)
    (h1 : FOk Try.prog 33 [AVal.str (ByteArray.mk #[77]), AVal.slc false 0 1 0 11 (some 11)] [AObj.rows false 1 (flM 1), AObj.rows false 11 [(rM m0 m1 m2 m3 m4 m5 m6 (AVal.fsl nb 2 rs none) m8 m9 m10)]] (AVal.tuple [AVal.str s, AVal.int IntKind.i64 e]) [AObj.rows false 1 (flM 1), AObj.rows false 11 [(rM m0 m1 m2 m3 m4 m5 m6 (AVal.fsl nb 2 rs none) m8 m9 m10)]]) :
    FOk Try.prog 19 ([AVal.agg (rM m0 m1 m2 m3 m4 m5 m6 (AVal.fsl nb 2 rs none) m8 m9 m10)]) ([]) (AVal.tuple [AVal.str s, AVal.int IntKind.i64 e]) ([]) :=
  (evalF_ok followed Try.func19 (by kernel_rfl) (show evalF Try.prog Try.f19 ([AVal.agg (rM m0 m1 m2 m3 m4 m5 m6 (AVal.fsl nb 2 rs none) m8 m9 m10)]) ([]) ([Dec.use [0] [AVal.ptr 0 11 0 0] [AObj.rows false 11 [(rM m0 m1 m2 m3 m4 m5 m6 (AVal.fsl nb 2 rs none) m8 m9 m10)]] (AVal.slc false 1 1 0 11 (some 11)) [AObj.rows false 11 [(rM m0 m1 m2 m3 m4 m5 m6 (AVal.fsl nb 2 rs none) m8 m9 m10)], AObj.rows false 1 (flM 0)], Dec.use [1, 0] [AVal.str (ByteArray.mk #[77]), AVal.slc false 0 1 0 11 (some 11)] [AObj.rows false 1 (flM 1), AObj.rows false 11 [(rM m0 m1 m2 m3 m4 m5 m6 (AVal.fsl nb 2 rs none) m8 m9 m10)]] (AVal.tuple [AVal.str s, AVal.int IntKind.i64 e]) [AObj.rows false 1 (flM 1), AObj.rows false 11 [(rM m0 m1 m2 m3 m4 m5 m6 (AVal.fsl nb 2 rs none) m8 m9 m10)]]]) = .ok (FRes.mk (AVal.tuple [AVal.str s, AVal.int IntKind.i64 e]) ([AObj.rows false 11 [(rM m0 m1 m2 m3 m4 m5 m6 (AVal.fsl nb 2 rs none) m8 m9 m10)], AObj.rows false 1 (flM 0)]) ((Owed.use (owed Try.prog 0) 33 [1, 0] [AVal.str (ByteArray.mk #[77]), AVal.slc false 1 1 0 11 (some 11)] [AObj.rows false 11 [(rM m0 m1 m2 m3 m4 m5 m6 (AVal.fsl nb 2 rs none) m8 m9 m10)], AObj.rows false 1 (flM 0)] [AVal.str (ByteArray.mk #[77]), AVal.slc false 0 1 0 11 (some 11)] [AObj.rows false 1 (flM 1), AObj.rows false 11 [(rM m0 m1 m2 m3 m4 m5 m6 (AVal.fsl nb 2 rs none) m8 m9 m10)]] (AVal.tuple [AVal.str s, AVal.int IntKind.i64 e]) [AObj.rows false 1 (flM 1), AObj.rows false 11 [(rM m0 m1 m2 m3 m4 m5 m6 (AVal.fsl nb 2 rs none) m8 m9 m10)]]) :: ((Owed.use (owed Try.prog 0) 47 [0] [AVal.ptr 0 11 0 0] [AObj.rows false 11 [(rM m0 m1 m2 m3 m4 m5 m6 (AVal.fsl nb 2 rs none) m8 m9 m10)]] [AVal.ptr 0 11 0 0] [AObj.rows false 11 [(rM m0 m1 m2 m3 m4 m5 m6 (AVal.fsl nb 2 rs none) m8 m9 m10)]] (AVal.slc false 1 1 0 11 (some 11)) [AObj.rows false 11 [(rM m0 m1 m2 m3 m4 m5 m6 (AVal.fsl nb 2 rs none) m8 m9 m10)], AObj.rows false 1 (flM 0)]) :: []))) by kernel_rfl) (allP_of ⟨⟨h1, rfl, rfl, rfl⟩, ⟨⟨(@Go.L12.fldM_1 (m0) (m1) (m2) (m3) (m4) (m5) (m6) (m8) (m9) (m10) (nb) (rs)), rfl, rfl, rfl⟩, trivial⟩⟩)).move ([]) (by kernel_rfl) (by kernel_rfl) (by kernel_rfl)

def PutM_T (m0 m1 m2 m3 m4 m5 m6 m8 : Int) (m9 : Bool) (m10 : ByteArray) (nb : Bool) (rs : List (List AVal)) (s : ByteArray) (e : Int) (Q : AVal → AState → Prop) : Prop := (FOk Try.prog 33 [AVal.str (ByteArray.mk #[77]), AVal.slc false 0 1 0 11 (some 11)] [AObj.rows false 1 (flM 1), AObj.rows false 11 [(rM m0 m1 m2 m3 m4 m5 m6 (AVal.fsl nb 2 rs none) m8 m9 m10)]] (AVal.tuple [AVal.str s, AVal.int IntKind.i64 e]) [AObj.rows false 1 (flM 1), AObj.rows false 11 [(rM m0 m1 m2 m3 m4 m5 m6 (AVal.fsl nb 2 rs none) m8 m9 m10)]]) ∧ Q (AVal.tuple [AVal.str s, AVal.int IntKind.i64 e]) ([])
theorem PutM_wp (m0 m1 m2 m3 m4 m5 m6 m8 : Int) (m9 : Bool) (m10 : ByteArray) (nb : Bool) (rs : List (List AVal)) (s : ByteArray) (e : Int) {Q : AVal → AState → Prop} (h : PutM_T m0 m1 m2 m3 m4 m5 m6 m8 m9 m10 nb rs s e Q) : ∃ r σ', FOk Try.prog 19 ([AVal.agg (rM m0 m1 m2 m3 m4 m5 m6 (AVal.fsl nb 2 rs none) m8 m9 m10)]) ([]) r σ' ∧ Q r σ' :=
  ⟨_, _, PutM_1 m0 m1 m2 m3 m4 m5 m6 m8 m9 m10 nb rs s e (h.1), h.2⟩


theorem FromM_1 (m0 m1 m2 m3 m4 m5 m6 m8 : Int) (m9 : Bool) (m10 : ByteArray) (nb : Bool) (rs : List (List AVal)) (s : ByteArray)
    (h1 : FOk Try.prog 40 [AVal.str s, AVal.str (ByteArray.mk #[77]), AVal.slc false 0 1 0 11 (some 11)] [AObj.rows false 1 (flM 1), AObj.rows false 11 [[AVal.int IntKind.i64 0, AVal.int IntKind.i64 0, AVal.int IntKind.i64 0, AVal.int IntKind.i64 0, AVal.int IntKind.i64 0, AVal.int IntKind.i64 0, AVal.int IntKind.i64 0, AVal.fsl true 0 [] (some 0), AVal.int IntKind.i64 0, AVal.tt false, AVal.str (ByteArray.mk #[])]]] (AVal.int IntKind.i64 0) [AObj.rows false 1 (flM 1), AObj.rows true 11 [(rM m0 m1 m2 m3 m4 m5 m6 (AVal.fsl nb 2 rs none) m8 m9 m10)]]) :
    FOk Try.prog 21 ([AVal.str s]) ([]) (AVal.tuple [AVal.agg (rM m0 m1 m2 m3 m4 m5 m6 (AVal.fsl nb 2 rs none) m8 m9 m10), AVal.int IntKind.i64 0]) ([]) :=
  (evalF_ok followed Try.func21 (by kernel_rfl) (show evalF Try.prog Try.f21 ([AVal.str s]) ([]) ([Dec.use [1] [AVal.ptr 0 11 0 0] [AObj.rows false 11 [[AVal.int IntKind.i64 0, AVal.int IntKind.i64 0, AVal.int IntKind.i64 0, AVal.int IntKind.i64 0, AVal.int IntKind.i64 0, AVal.int IntKind.i64 0, AVal.int IntKind.i64 0, AVal.fsl true 0 [] (some 0), AVal.int IntKind.i64 0, AVal.tt false, AVal.str (ByteArray.mk #[])]]] (AVal.slc false 1 1 0 11 (some 11)) [AObj.rows false 11 [[AVal.int IntKind.i64 0, AVal.int IntKind.i64 0, AVal.int IntKind.i64 0, AVal.int IntKind.i64 0, AVal.int IntKind.i64 0, AVal.int IntKind.i64 0, AVal.int IntKind.i64 0, AVal.fsl true 0 [] (some 0), AVal.int IntKind.i64 0, AVal.tt false, AVal.str (ByteArray.mk #[])]], AObj.rows false 1 (flM 0)], Dec.use [2, 1] [AVal.str s, AVal.str (ByteArray.mk #[77]), AVal.slc false 0 1 0 11 (some 11)] [AObj.rows false 1 (flM 1), AObj.rows false 11 [[AVal.int IntKind.i64 0, AVal.int IntKind.i64 0, AVal.int IntKind.i64 0, AVal.int IntKind.i64 0, AVal.int IntKind.i64 0, AVal.int IntKind.i64 0, AVal.int IntKind.i64 0, AVal.fsl true 0 [] (some 0), AVal.int IntKind.i64 0, AVal.tt false, AVal.str (ByteArray.mk #[])]]] (AVal.int IntKind.i64 0) [AObj.rows false 1 (flM 1), AObj.rows true 11 [rM m0 m1 m2 m3 m4 m5 m6 (AVal.fsl nb 2 rs none) m8 m9 m10]], Dec.br false]) = .ok (FRes.mk (AVal.tuple [AVal.agg (rM m0 m1 m2 m3 m4 m5 m6 (AVal.fsl nb 2 rs none) m8 m9 m10), AVal.int IntKind.i64 0]) ([AObj.rows false 11 [(rM m0 m1 m2 m3 m4 m5 m6 (AVal.fsl nb 2 rs none) m8 m9 m10)], AObj.rows true 11 [(rM m0 m1 m2 m3 m4 m5 m6 (AVal.fsl nb 2 rs none) m8 m9 m10)], AObj.rows false 1 (flM 1)]) (tr 7 ++ ((false = false) :: ((Owed.use (owed Try.prog 0) 40 [2, 1] [AVal.str s, AVal.str (ByteArray.mk #[77]), AVal.slc false 2 1 0 11 (some 11)] [AObj.rows false 11 [[AVal.int IntKind.i64 0, AVal.int IntKind.i64 0, AVal.int IntKind.i64 0, AVal.int IntKind.i64 0, AVal.int IntKind.i64 0, AVal.int IntKind.i64 0, AVal.int IntKind.i64 0, AVal.fsl true 0 [] (some 0), AVal.int IntKind.i64 0, AVal.tt false, AVal.str (ByteArray.mk #[])]], AObj.rows false 11 [[AVal.int IntKind.i64 0, AVal.int IntKind.i64 0, AVal.int IntKind.i64 0, AVal.int IntKind.i64 0, AVal.int IntKind.i64 0, AVal.int IntKind.i64 0, AVal.int IntKind.i64 0, AVal.fsl true 0 [] (some 0), AVal.int IntKind.i64 0, AVal.tt false, AVal.str (ByteArray.mk #[])]], AObj.rows false 1 (flM 1)] [AVal.str s, AVal.str (ByteArray.mk #[77]), AVal.slc false 0 1 0 11 (some 11)] [AObj.rows false 1 (flM 1), AObj.rows false 11 [[AVal.int IntKind.i64 0, AVal.int IntKind.i64 0, AVal.int IntKind.i64 0, AVal.int IntKind.i64 0, AVal.int IntKind.i64 0, AVal.int IntKind.i64 0, AVal.int IntKind.i64 0, AVal.fsl true 0 [] (some 0), AVal.int IntKind.i64 0, AVal.tt false, AVal.str (ByteArray.mk #[])]]] (AVal.int IntKind.i64 0) [AObj.rows false 1 (flM 1), AObj.rows true 11 [(rM m0 m1 m2 m3 m4 m5 m6 (AVal.fsl nb 2 rs none) m8 m9 m10)]]) :: ((Owed.use (owed Try.prog 0) 47 [1] [AVal.ptr 1 11 0 0] [AObj.rows false 11 [[AVal.int IntKind.i64 0, AVal.int IntKind.i64 0, AVal.int IntKind.i64 0, AVal.int IntKind.i64 0, AVal.int IntKind.i64 0, AVal.int IntKind.i64 0, AVal.int IntKind.i64 0, AVal.fsl true 0 [] (some 0), AVal.int IntKind.i64 0, AVal.tt false, AVal.str (ByteArray.mk #[])]], AObj.rows false 11 [[AVal.int IntKind.i64 0, AVal.int IntKind.i64 0, AVal.int IntKind.i64 0, AVal.int IntKind.i64 0, AVal.int IntKind.i64 0, AVal.int IntKind.i64 0, AVal.int IntKind.i64 0, AVal.fsl true 0 [] (some 0), AVal.int IntKind.i64 0, AVal.tt false, AVal.str (ByteArray.mk #[])]]] [AVal.ptr 0 11 0 0] [AObj.rows false 11 [[AVal.int IntKind.i64 0, AVal.int IntKind.i64 0, AVal.int IntKind.i64 0, AVal.int IntKind.i64 0, AVal.int IntKind.i64 0, AVal.int IntKind.i64 0, AVal.int IntKind.i64 0, AVal.fsl true 0 [] (some 0), AVal.int IntKind.i64 0, AVal.tt false, AVal.str (ByteArray.mk #[])]]] (AVal.slc false 1 1 0 11 (some 11)) [AObj.rows false 11 [[AVal.int IntKind.i64 0, AVal.int IntKind.i64 0, AVal.int IntKind.i64 0, AVal.int IntKind.i64 0, AVal.int IntKind.i64 0, AVal.int IntKind.i64 0, AVal.int IntKind.i64 0, AVal.fsl true 0 [] (some 0), AVal.int IntKind.i64 0, AVal.tt false, AVal.str (ByteArray.mk #[])]], AObj.rows false 1 (flM 0)]) :: []))))) by kernel_rfl) (allP_of (trC 7 ⟨rfl, ⟨⟨h1, rfl, rfl, rfl⟩, ⟨⟨(@Go.L12.fldzM_1 (0)), rfl, rfl, rfl⟩, trivial⟩⟩⟩))).move ([]) (by kernel_rfl) (by kernel_rfl) (by kernel_rfl)

def FromM_T (m0 m1 m2 m3 m4 m5 m6 m8 : Int) (m9 : Bool) (m10 : ByteArray) (nb : Bool) (rs : List (List AVal)) (s : ByteArray) (Q : AVal → AState → Prop) : Prop := (FOk Try.prog 40 [AVal.str s, AVal.str (ByteArray.mk #[77]), AVal.slc false 0 1 0 11 (some 11)] [AObj.rows false 1 (flM 1), AObj.rows false 11 [[AVal.int IntKind.i64 0, AVal.int IntKind.i64 0, AVal.int IntKind.i64 0, AVal.int IntKind.i64 0, AVal.int IntKind.i64 0, AVal.int IntKind.i64 0, AVal.int IntKind.i64 0, AVal.fsl true 0 [] (some 0), AVal.int IntKind.i64 0, AVal.tt false, AVal.str (ByteArray.mk #[])]]] (AVal.int IntKind.i64 0) [AObj.rows false 1 (flM 1), AObj.rows true 11 [(rM m0 m1 m2 m3 m4 m5 m6 (AVal.fsl nb 2 rs none) m8 m9 m10)]]) ∧ Q (AVal.tuple [AVal.agg (rM m0 m1 m2 m3 m4 m5 m6 (AVal.fsl nb 2 rs none) m8 m9 m10), AVal.int IntKind.i64 0]) ([])
theorem FromM_wp (m0 m1 m2 m3 m4 m5 m6 m8 : Int) (m9 : Bool) (m10 : ByteArray) (nb : Bool) (rs : List (List AVal)) (s : ByteArray) {Q : AVal → AState → Prop} (h : FromM_T m0 m1 m2 m3 m4 m5 m6 m8 m9 m10 nb rs s Q) : ∃ r σ', FOk Try.prog 21 ([AVal.str s]) ([]) r σ' ∧ Q r σ' :=
  ⟨_, _, FromM_1 m0 m1 m2 m3 m4 m5 m6 m8 m9 m10 nb rs s (h.1), h.2⟩


theorem FromNM_1 (s : ByteArray)
    (h1 : FOk Try.prog 40 [AVal.str s, AVal.str (ByteArray.mk #[77]), AVal.slc false 0 1 0 11 (some 11)] [AObj.rows false 1 (flM 1), AObj.rows false 11 [[AVal.int IntKind.i64 0, AVal.int IntKind.i64 0, AVal.int IntKind.i64 0, AVal.int IntKind.i64 0, AVal.int IntKind.i64 0, AVal.int IntKind.i64 0, AVal.int IntKind.i64 0, AVal.fsl true 0 [] (some 0), AVal.int IntKind.i64 0, AVal.tt false, AVal.str (ByteArray.mk #[])]]] (AVal.int IntKind.i64 140) [AObj.dead, AObj.dead]) :
    FOk Try.prog 21 ([AVal.str s]) ([]) (AVal.tuple [AVal.agg (rM 0 0 0 0 0 0 0 (AVal.fsl true 2 [] none) 0 false (ByteArray.mk #[])), AVal.int IntKind.i64 140]) ([]) :=
  (evalF_ok followed Try.func21 (by kernel_rfl) (show evalF Try.prog Try.f21 ([AVal.str s]) ([]) ([Dec.use [1] [AVal.ptr 0 11 0 0] [AObj.rows false 11 [[AVal.int IntKind.i64 0, AVal.int IntKind.i64 0, AVal.int IntKind.i64 0, AVal.int IntKind.i64 0, AVal.int IntKind.i64 0, AVal.int IntKind.i64 0, AVal.int IntKind.i64 0, AVal.fsl true 0 [] (some 0), AVal.int IntKind.i64 0, AVal.tt false, AVal.str (ByteArray.mk #[])]]] (AVal.slc false 1 1 0 11 (some 11)) [AObj.rows false 11 [[AVal.int IntKind.i64 0, AVal.int IntKind.i64 0, AVal.int IntKind.i64 0, AVal.int IntKind.i64 0, AVal.int IntKind.i64 0, AVal.int IntKind.i64 0, AVal.int IntKind.i64 0, AVal.fsl true 0 [] (some 0), AVal.int IntKind.i64 0, AVal.tt false, AVal.str (ByteArray.mk #[])]], AObj.rows false 1 (flM 0)], Dec.use [2, 1] [AVal.str s, AVal.str (ByteArray.mk #[77]), AVal.slc false 0 1 0 11 (some 11)] [AObj.rows false 1 (flM 1), AObj.rows false 11 [[AVal.int IntKind.i64 0, AVal.int IntKind.i64 0, AVal.int IntKind.i64 0, AVal.int IntKind.i64 0, AVal.int IntKind.i64 0, AVal.int IntKind.i64 0, AVal.int IntKind.i64 0, AVal.fsl true 0 [] (some 0), AVal.int IntKind.i64 0, AVal.tt false, AVal.str (ByteArray.mk #[])]]] (AVal.int IntKind.i64 140) [AObj.dead, AObj.dead], Dec.br true]) = .ok (FRes.mk (AVal.tuple [AVal.agg (rM 0 0 0 0 0 0 0 (AVal.fsl true 2 [] none) 0 false (ByteArray.mk #[])), AVal.int IntKind.i64 140]) ([AObj.rows false 11 [[AVal.int IntKind.i64 0, AVal.int IntKind.i64 0, AVal.int IntKind.i64 0, AVal.int IntKind.i64 0, AVal.int IntKind.i64 0, AVal.int IntKind.i64 0, AVal.int IntKind.i64 0, AVal.fsl true 0 [] (some 0), AVal.int IntKind.i64 0, AVal.tt false, AVal.str (ByteArray.mk #[])]], AObj.dead, AObj.dead]) (tr 5 ++ ((Owed.use (owed Try.prog 0) 40 [2, 1] [AVal.str s, AVal.str (ByteArray.mk #[77]), AVal.slc false 2 1 0 11 (some 11)] [AObj.rows false 11 [[AVal.int IntKind.i64 0, AVal.int IntKind.i64 0, AVal.int IntKind.i64 0, AVal.int IntKind.i64 0, AVal.int IntKind.i64 0, AVal.int IntKind.i64 0, AVal.int IntKind.i64 0, AVal.fsl true 0 [] (some 0), AVal.int IntKind.i64 0, AVal.tt false, AVal.str (ByteArray.mk #[])]], AObj.rows false 11 [[AVal.int IntKind.i64 0, AVal.int IntKind.i64 0, AVal.int IntKind.i64 0, AVal.int IntKind.i64 0, AVal.int IntKind.i64 0, AVal.int IntKind.i64 0, AVal.int IntKind.i64 0, AVal.fsl true 0 [] (some 0), AVal.int IntKind.i64 0, AVal.tt false, AVal.str (ByteArray.mk #[])]], AObj.rows false 1 (flM 1)] [AVal.str s, AVal.str (ByteArray.mk #[77]), AVal.slc false 0 1 0 11 (some 11)] [AObj.rows false 1 (flM 1), AObj.rows false 11 [[AVal.int IntKind.i64 0, AVal.int IntKind.i64 0, AVal.int IntKind.i64 0, AVal.int IntKind.i64 0, AVal.int IntKind.i64 0, AVal.int IntKind.i64 0, AVal.int IntKind.i64 0, AVal.fsl true 0 [] (some 0), AVal.int IntKind.i64 0, AVal.tt false, AVal.str (ByteArray.mk #[])]]] (AVal.int IntKind.i64 140) [AObj.dead, AObj.dead]) :: ((Owed.use (owed Try.prog 0) 47 [1] [AVal.ptr 1 11 0 0] [AObj.rows false 11 [[AVal.int IntKind.i64 0, AVal.int IntKind.i64 0, AVal.int IntKind.i64 0, AVal.int IntKind.i64 0, AVal.int IntKind.i64 0, AVal.int IntKind.i64 0, AVal.int IntKind.i64 0, AVal.fsl true 0 [] (some 0), AVal.int IntKind.i64 0, AVal.tt false, AVal.str (ByteArray.mk #[])]], AObj.rows false 11 [[AVal.int IntKind.i64 0, AVal.int IntKind.i64 0, AVal.int IntKind.i64 0, AVal.int IntKind.i64 0, AVal.int IntKind.i64 0, AVal.int IntKind.i64 0, AVal.int IntKind.i64 0, AVal.fsl true 0 [] (some 0), AVal.int IntKind.i64 0, AVal.tt false, AVal.str (ByteArray.mk #[])]]] [AVal.ptr 0 11 0 0] [AObj.rows false 11 [[AVal.int IntKind.i64 0, AVal.int IntKind.i64 0, AVal.int IntKind.i64 0, AVal.int IntKind.i64 0, AVal.int IntKind.i64 0, AVal.int IntKind.i64 0, AVal.int IntKind.i64 0, AVal.fsl true 0 [] (some 0), AVal.int IntKind.i64 0, AVal.tt false, AVal.str (ByteArray.mk #[])]]] (AVal.slc false 1 1 0 11 (some 11)) [AObj.rows false 11 [[AVal.int IntKind.i64 0, AVal.int IntKind.i64 0, AVal.int IntKind.i64 0, AVal.int IntKind.i64 0, AVal.int IntKind.i64 0, AVal.int IntKind.i64 0, AVal.int IntKind.i64 0, AVal.fsl true 0 [] (some 0), AVal.int IntKind.i64 0, AVal.tt false, AVal.str (ByteArray.mk #[])]], AObj.rows false 1 (flM 0)]) :: [])))) by kernel_rfl) (allP_of (trC 5 ⟨⟨h1, rfl, rfl, rfl⟩, ⟨⟨(@Go.L12.fldzM_1 (0)), rfl, rfl, rfl⟩, trivial⟩⟩))).move ([]) (by kernel_rfl) (by kernel_rfl) (by kernel_rfl)

def FromNM_T (s : ByteArray) (Q : AVal → AState → Prop) : Prop := (FOk Try.prog 40 [AVal.str s, AVal.str (ByteArray.mk #[77]), AVal.slc false 0 1 0 11 (some 11)] [AObj.rows false 1 (flM 1), AObj.rows false 11 [[AVal.int IntKind.i64 0, AVal.int IntKind.i64 0, AVal.int IntKind.i64 0, AVal.int IntKind.i64 0, AVal.int IntKind.i64 0, AVal.int IntKind.i64 0, AVal.int IntKind.i64 0, AVal.fsl true 0 [] (some 0), AVal.int IntKind.i64 0, AVal.tt false, AVal.str (ByteArray.mk #[])]]] (AVal.int IntKind.i64 140) [AObj.dead, AObj.dead]) ∧ Q (AVal.tuple [AVal.agg (rM 0 0 0 0 0 0 0 (AVal.fsl true 2 [] none) 0 false (ByteArray.mk #[])), AVal.int IntKind.i64 140]) ([])
theorem FromNM_wp (s : ByteArray) {Q : AVal → AState → Prop} (h : FromNM_T s Q) : ∃ r σ', FOk Try.prog 21 ([AVal.str s]) ([]) r σ' ∧ Q r σ' :=
  ⟨_, _, FromNM_1 s (h.1), h.2⟩


end Go.L12
end

section
set_option linter.unusedVariables false
set_option linter.unusedSimpArgs false
set_option maxRecDepth 100000
namespace Go.L12
open Go Go.Abs Go.Proofs

def TM : List Nat := [100, 100, 100, 100, 100, 100, 100, 100, 101, 111, 104]
abbrev vsM (m0 m1 m2 m3 m4 m5 m6 m8 : Int) (m9 : Bool) (m10 : ByteArray) (v : AVal) : List AVal := [.int .i64 m0, .int .i64 m1, .int .i64 m2, .int .i64 m3, .int .i64 m4, .int .i64 m5, .int .i64 m6, .int .i64 m8, .bool m9, v, .str m10]
theorem unLM {ts : List Nat} {vs : List AVal} (h : allF (111 :: ts) vs) : ∃ rs vs', vs = listV rs :: vs' ∧ isL 111 rs ∧ allF ts vs' := by
  obtain ⟨v, vs', rfl, ⟨n, rfl, h1⟩, h2⟩ := unF h
  exact ⟨n, vs', rfl, h1, h2⟩
theorem typedM {vs : List AVal} (h : allF TM vs) : ∃ (m0 m1 m2 m3 m4 m5 m6 m8 : Int) (m9 : Bool) (m10 : ByteArray) (rs : List (List AVal)), isL 111 rs ∧ vs = (vsM m0 m1 m2 m3 m4 m5 m6 m8 m9 m10 (listV rs)) := by
  obtain ⟨m0, w0, e0, h0⟩ := unI h
  obtain ⟨m1, w1, e1, h1⟩ := unI h0
  obtain ⟨m2, w2, e2, h2⟩ := unI h1
  obtain ⟨m3, w3, e3, h3⟩ := unI h2
  obtain ⟨m4, w4, e4, h4⟩ := unI h3
  obtain ⟨m5, w5, e5, h5⟩ := unI h4
  obtain ⟨m6, w6, e6, h6⟩ := unI h5
  obtain ⟨m8, w7, e7, h7⟩ := unI h6
  obtain ⟨m9, w8, e8, h8⟩ := unB h7
  obtain ⟨rs, w9, e9, hr, h9⟩ := unLM h8
  obtain ⟨m10, w10, e10, h10⟩ := unS h9
  have e := unN h10
  subst e
  subst e10
  subst e9
  subst e8
  subst e7
  subst e6
  subst e5
  subst e4
  subst e3
  subst e2
  subst e1
  subst e0
  exact ⟨m0, m1, m2, m3, m4, m5, m6, m8, m9, m10, rs, hr, rfl⟩
theorem seqO_M (m0 m1 m2 m3 m4 m5 m6 m8 : Int) (m9 : Bool) (m10 : ByteArray) (nb : Bool) (rs : List (List AVal)) : seqO (fpM (rM m0 m1 m2 m3 m4 m5 m6 (.fsl nb 2 rs none) m8 m9 m10)) 11 0 = putAll TM (vsM m0 m1 m2 m3 m4 m5 m6 m8 m9 m10 (listV rs)) := by
  rw [seqO_all (fun i => (FM.getD i (0, 0, 0)).1) (fun i => (objM (rM m0 m1 m2 m3 m4 m5 m6 (.fsl nb 2 rs none) m8 m9 m10) (FM.getD i (0, 0, 0)).2.1).getD (FM.getD i (0, 0, 0)).2.2 .any) (fpM (rM m0 m1 m2 m3 m4 m5 m6 (.fsl nb 2 rs none) m8 m9 m10)) (fun i => rfl)]
  rfl
theorem putM_ok (m0 m1 m2 m3 m4 m5 m6 m8 : Int) (m9 : Bool) (m10 : ByteArray) (nb : Bool) (rs : List (List AVal)) (hk : kM m0 m1 m2 m3 m4 m5 m6 m8 rs) (b : List UInt8) (h : putAll TM (vsM m0 m1 m2 m3 m4 m5 m6 m8 m9 m10 (listV rs)) = some b) : FOk Try.prog 19 [.agg (rM m0 m1 m2 m3 m4 m5 m6 (.fsl nb 2 rs none) m8 m9 m10)] [] (.tuple [.str (bS (77 :: b)), .int .i64 0]) [] := by
  refine FOk.wp (PutM_wp m0 m1 m2 m3 m4 m5 m6 m8 m9 m10 nb rs (bS (77 :: b)) 0 ?_)
  unfold PutM_T
  exact ⟨(put33M_ok m0 m1 m2 m3 m4 m5 m6 m8 m9 m10 nb rs hk b (by rw [seqO_M]; exact h)).args ⟨Imp.refl _, Imp.slcCap _ _ _ _ _ _, trivial⟩, rfl, rfl⟩
def zeroM : List AVal := (rM 0 0 0 0 0 0 0 (.fsl true 0 [] (some 0)) 0 false ⟨#[]⟩)
def setM (i : Nat) (u : List AVal) (v : AVal) : List AVal := u.set (FM.getD i (0, 0, 0)).2.2 v
theorem seqG_M (s : ByteArray) : seqG gtM 11 0 zeroM s = (takeAll TM s).map fun y => (setAll setM 0 zeroM y.1, y.2) := by
  rw [seqG_all (fun i => (FM.getD i (0, 0, 0)).1) setM gtM (fun i u s => rfl)]
  rfl
theorem set_M (m0 m1 m2 m3 m4 m5 m6 m8 : Int) (m9 : Bool) (m10 : ByteArray) (v : AVal) : setAll setM 0 zeroM (vsM m0 m1 m2 m3 m4 m5 m6 m8 m9 m10 v) = (rM m0 m1 m2 m3 m4 m5 m6 v m8 m9 m10) := by kernel_rfl
theorem iv0M : ivM 0 zeroM := ⟨_, _, _, _, _, _, _, _, _, _, _, rfl, fun _ => rfl⟩
theorem preM {s s' : ByteArray} (h : lB s = UInt8.ofNat 77 :: lB s') : (lB (ByteArray.mk #[77]) <+: lB s) ∧ s.extract (ByteArray.mk #[77]).size s.size = s' := by
  constructor
  · exact ⟨lB s', h.symm⟩
  · have e := mk_of h
    unfold mk at e
    split at e
    · exact congrArg Prod.fst e
    · have := congrArg Prod.snd e; cases this
theorem fromM_pre {s : ByteArray} {r : AVal} {σ' : AState} (h : FOk Try.prog 40 [.str s, .str ⟨#[77]⟩, .slc false 0 1 0 11 none] [.rows false 1 (flM 1), .rows true 11 [(rM 0 0 0 0 0 0 0 (.fsl true 0 [] (some 0)) 0 false ⟨#[]⟩)]] r σ') : FOk Try.prog 40 [.str s, .str ⟨#[77]⟩, .slc false 0 1 0 11 (some 11)] [.rows false 1 (flM 1), .rows false 11 [[.int .i64 0, .int .i64 0, .int .i64 0, .int .i64 0, .int .i64 0, .int .i64 0, .int .i64 0, .fsl true 0 [] (some 0), .int .i64 0, .tt false, .str ⟨#[]⟩]]] r σ' := by
  have q : FOk Try.prog 40 [.str s, .str ⟨#[77]⟩, .slc false 0 1 0 11 none] [.rows false 1 (flM 1), .rows false 11 [[.int .i64 0, .int .i64 0, .int .i64 0, .int .i64 0, .int .i64 0, .int .i64 0, .int .i64 0, .fsl true 0 [] (some 0), .int .i64 0, .tt false, .str ⟨#[]⟩]]] r σ' := FOk.preObj 1 (.rows true 11 [(rM 0 0 0 0 0 0 0 (.fsl true 0 [] (some 0)) 0 false ⟨#[]⟩)]) h (by simp) rfl (fun F w ρ b h => ORel.row1 (xs := [.int .i64 0, .int .i64 0, .int .i64 0, .int .i64 0, .int .i64 0, .int .i64 0, .int .i64 0, .fsl true 0 [] (some 0), .int .i64 0, .tt false, .str ⟨#[]⟩]) ⟨Imp.refl _, Imp.refl _, Imp.refl _, Imp.refl _, Imp.refl _, Imp.refl _, Imp.refl _, Imp.refl _, Imp.refl _, Imp.ttb rfl, Imp.refl _, trivial⟩ (ORel.unpure h rfl))
  exact q.args ⟨Imp.refl _, Imp.refl _, Imp.slcCap _ _ _ _ _ _, trivial⟩
theorem fromM_is {s : ByteArray} (m0 m1 m2 m3 m4 m5 m6 m8 : Int) (m9 : Bool) (m10 : ByteArray) (rs : List (List AVal)) (h : Is 77 TM s (vsM m0 m1 m2 m3 m4 m5 m6 m8 m9 m10 (listV rs))) : FOk Try.prog 21 [.str s] [] (.tuple [.agg (rM m0 m1 m2 m3 m4 m5 m6 (listV rs) m8 m9 m10), .int .i64 0]) [] := by
  obtain ⟨s', h1, h2⟩ := h
  obtain ⟨p1, p2⟩ := preM h1
  refine FOk.wp (FromM_wp m0 m1 m2 m3 m4 m5 m6 m8 m9 m10 rs.isEmpty rs s ?_)
  unfold FromM_T
  have ht := takesM_ok zeroM iv0M s' ((rM m0 m1 m2 m3 m4 m5 m6 (listV rs) m8 m9 m10), ⟨#[]⟩) (by rw [seqG_M, h2]; exact congrArg (fun x => some (x, (⟨#[]⟩ : ByteArray))) (set_M m0 m1 m2 m3 m4 m5 m6 m8 m9 m10 (listV rs)))
  rw [← p2] at ht
  exact ⟨fromM_pre (fromM_ok (rM 0 0 0 0 0 0 0 (.fsl true 0 [] (some 0)) 0 false ⟨#[]⟩) (rM m0 m1 m2 m3 m4 m5 m6 (listV rs) m8 m9 m10) s ⟨#[77]⟩ p1 ht), rfl, rfl⟩
theorem fromM_none {s : ByteArray} (h : ∀ vs, ¬ Is 77 TM s vs) : FOk Try.prog 21 [.str s] [] (.tuple [.agg (rM 0 0 0 0 0 0 0 (.fsl true 2 [] none) 0 false ⟨#[]⟩), .int .i64 140]) [] := by
  refine FOk.wp (FromNM_wp s ?_)
  unfold FromNM_T
  refine ⟨fromM_pre ?_, rfl, rfl⟩
  by_cases hp : lB (ByteArray.mk #[77]) <+: lB s
  · obtain ⟨t, ht⟩ := hp
    have h1 : lB s = UInt8.ofNat 77 :: lB (bS t) := by rw [lB_bS]; exact ht.symm
    obtain ⟨p1, p2⟩ := preM h1
    cases hs : takeAll TM (bS t) with
    | none =>
      have hx := takesM_no zeroM iv0M (bS t) (by rw [seqG_M, hs]; rfl)
      rw [← p2] at hx
      exact fromM_no (rM 0 0 0 0 0 0 0 (.fsl true 0 [] (some 0)) 0 false ⟨#[]⟩) s ⟨#[77]⟩ p1 hx
    | some y =>
      have hx := takesM_ok zeroM iv0M (bS t) (setAll setM 0 zeroM y.1, y.2) (by rw [seqG_M, hs]; rfl)
      rw [← p2] at hx
      refine fromM_more (rM 0 0 0 0 0 0 0 (.fsl true 0 [] (some 0)) 0 false ⟨#[]⟩) (setAll setM 0 zeroM y.1) s ⟨#[77]⟩ y.2 p1 (fun h0 => h y.1 ⟨bS t, h1, ?_⟩) hx
      have : y.2 = ⟨#[]⟩ := lB_inj (List.eq_nil_of_length_eq_zero (by rw [lB_length]; exact h0))
      rw [hs, ← this]
  · exact fromM_mark (rM 0 0 0 0 0 0 0 (.fsl true 0 [] (some 0)) 0 false ⟨#[]⟩) s ⟨#[77]⟩ hp
end Go.L12
end

section
set_option linter.unusedVariables false
set_option maxRecDepth 100000
namespace Go.L12
open Go Go.Abs Go.Proofs
def rgfM (n q : Int) : Regs := mkR 78 [(2, .ptr 0 11 0 0), (4, .ptr 1 2 0 0), (5, .ptr 2 11 0 0), (6, .int .i64 n), (7, .int .i64 q)]
abbrev hfM (m0 m1 m2 m3 m4 m5 m6 m8 : Int) (m9 : Bool) (m10 : ByteArray) (b : Bool) (kk : Nat) (rs : List (List AVal)) (p : RS) : AState := [.rows false 11 [[.int .i64 0, .int .i64 0, .int .i64 0, .int .i64 0, .int .i64 0, .int .i64 0, .int .i64 0, .fsl true 0 [] (some 0), .int .i64 0, .tt false, .str ⟨#[]⟩]], .rows true 2 [[.str p.1, .bool p.2]], .rows false 11 [(rM m0 m1 m2 m3 m4 m5 m6 (.slc b 3 2 0 kk none) m8 m9 m10)], .rows true 2 rs]
theorem fMr_1 (m0 m1 m2 m3 m4 m5 m6 m8 : Int) (m9 : Bool) (m10 : ByteArray) (b : Bool) (kk : Nat) (rs : List (List AVal)) (p : RS) (n q : Int)
    (h1 : decide (List.length rs = kk) = true)
    (h2 : decide ((kk + 1) * 24 ≤ 140737488355328 ∧ kk + 1 ≤ 9223372036854775807) = true)
    (h3 : (!Prod.snd p) = true)
    (h4 : decide (q < n) = true) :
    TripN Try.prog 0 (loopNo Try.f23 0) (rgfM n q) (hfM m0 m1 m2 m3 m4 m5 m6 m8 m9 m10 b kk rs p) (AExit.normal) (mkR 78 [(2, AVal.ptr 0 11 0 0), (4, AVal.ptr 1 2 0 0), (5, AVal.ptr 2 11 0 0), (6, AVal.int IntKind.i64 n), (7, AVal.int IntKind.i64 (IntKind.wrap IntKind.i64 (q + 1)))]) ([AObj.rows false 11 [[AVal.int IntKind.i64 0, AVal.int IntKind.i64 0, AVal.int IntKind.i64 0, AVal.int IntKind.i64 0, AVal.int IntKind.i64 0, AVal.int IntKind.i64 0, AVal.int IntKind.i64 0, AVal.fsl true 0 [] (some 0), AVal.int IntKind.i64 0, AVal.tt false, AVal.str (ByteArray.mk #[])]], oin (nT (nI p)), AObj.rows false 11 [(rM m0 m1 m2 m3 m4 m5 m6 (AVal.slc (b && false) 3 2 0 (kk + 1) none) m8 m9 m10)], AObj.rows true 2 (rs ++ [[AVal.int IntKind.i64 (vI p), AVal.str (vT (nI p))]])]) :=
  evalT (st := St.mk (rgfM n q) (hfM m0 m1 m2 m3 m4 m5 m6 m8 m9 m10 b kk rs p) ([Dec.br true, Dec.br true, Dec.use [1] [AVal.ptr 0 2 0 0] [oin p] (AVal.int IntKind.i64 (vI p)) [oin (nI p)], Dec.use [1] [AVal.ptr 0 2 0 0] [oin (nI p)] (AVal.str (vT (nI p))) [oin (nT (nI p))]]) []) (st' := St.mk (mkR 78 [(2, AVal.ptr 0 11 0 0), (4, AVal.ptr 1 2 0 0), (5, AVal.ptr 2 11 0 0), (6, AVal.int IntKind.i64 n), (7, AVal.int IntKind.i64 (IntKind.wrap IntKind.i64 (q + 1))), (8, AVal.ptr 4 2 0 0), (45, AVal.int IntKind.i64 q), (46, AVal.int IntKind.i64 n), (47, AVal.bool (decide (q < n))), (48, AVal.tt true), (49, AVal.ptr 1 2 0 0), (50, AVal.ptr 1 2 0 0), (51, AVal.ptr 1 2 0 1), (52, AVal.bool (Prod.snd p)), (53, AVal.bool !Prod.snd p), (54, AVal.tt true), (55, AVal.int IntKind.i64 q), (56, AVal.int IntKind.i64 (IntKind.wrap IntKind.i64 (q + 1))), (57, AVal.agg [AVal.int IntKind.i64 0, AVal.str (ByteArray.mk #[])]), (58, AVal.ptr 1 2 0 0), (59, AVal.int IntKind.i64 (vI p)), (60, AVal.ptr 4 2 0 0), (61, AVal.ptr 1 2 0 0), (62, AVal.str (vT (nI p))), (63, AVal.ptr 4 2 0 1), (64, AVal.ptr 2 11 0 7), (65, AVal.slc b 3 2 0 kk none), (66, AVal.agg [AVal.int IntKind.i64 (vI p), AVal.str (vT (nI p))]), (67, AVal.slc false 5 2 0 1 (some 1)), (68, AVal.slc (b && false) 6 2 0 (kk + 1) none), (69, AVal.ptr 2 11 0 7)]) ([AObj.rows false 11 [[AVal.int IntKind.i64 0, AVal.int IntKind.i64 0, AVal.int IntKind.i64 0, AVal.int IntKind.i64 0, AVal.int IntKind.i64 0, AVal.int IntKind.i64 0, AVal.int IntKind.i64 0, AVal.fsl true 0 [] (some 0), AVal.int IntKind.i64 0, AVal.tt false, AVal.str (ByteArray.mk #[])]], oin (nT (nI p)), AObj.rows false 11 [(rM m0 m1 m2 m3 m4 m5 m6 (AVal.slc (b && false) 6 2 0 (kk + 1) none) m8 m9 m10)], AObj.dead, AObj.rows true 2 [[AVal.int IntKind.i64 (vI p), AVal.str (vT (nI p))]], AObj.rows true 2 [[AVal.int IntKind.i64 (vI p), AVal.str (vT (nI p))]], AObj.rows true 2 (rs ++ [[AVal.int IntKind.i64 (vI p), AVal.str (vT (nI p))]])]) ([]) (tr 2 ++ ((decide (List.length rs = kk) = true) :: ((decide ((kk + 1) * 24 ≤ 140737488355328 ∧ kk + 1 ≤ 9223372036854775807) = true) :: (tr 9 ++ ((Owed.use (owed Try.prog 0) 45 [1] [AVal.ptr 1 2 0 0] [AObj.rows false 11 [[AVal.int IntKind.i64 0, AVal.int IntKind.i64 0, AVal.int IntKind.i64 0, AVal.int IntKind.i64 0, AVal.int IntKind.i64 0, AVal.int IntKind.i64 0, AVal.int IntKind.i64 0, AVal.fsl true 0 [] (some 0), AVal.int IntKind.i64 0, AVal.tt false, AVal.str (ByteArray.mk #[])]], oin (nI p), AObj.rows false 11 [(rM m0 m1 m2 m3 m4 m5 m6 (AVal.slc b 3 2 0 kk none) m8 m9 m10)], AObj.rows true 2 rs, AObj.rows true 2 [[AVal.int IntKind.i64 (vI p), AVal.str (ByteArray.mk #[])]]] [AVal.ptr 0 2 0 0] [oin (nI p)] (AVal.str (vT (nI p))) [oin (nT (nI p))]) :: (tr 2 ++ ((Owed.use (owed Try.prog 0) 42 [1] [AVal.ptr 1 2 0 0] [AObj.rows false 11 [[AVal.int IntKind.i64 0, AVal.int IntKind.i64 0, AVal.int IntKind.i64 0, AVal.int IntKind.i64 0, AVal.int IntKind.i64 0, AVal.int IntKind.i64 0, AVal.int IntKind.i64 0, AVal.fsl true 0 [] (some 0), AVal.int IntKind.i64 0, AVal.tt false, AVal.str (ByteArray.mk #[])]], oin p, AObj.rows false 11 [(rM m0 m1 m2 m3 m4 m5 m6 (AVal.slc b 3 2 0 kk none) m8 m9 m10)], AObj.rows true 2 rs, AObj.rows true 2 [[AVal.int IntKind.i64 0, AVal.str (ByteArray.mk #[])]]] [AVal.ptr 0 2 0 0] [oin p] (AVal.int IntKind.i64 (vI p)) [oin (nI p)]) :: (tr 2 ++ (((!Prod.snd p) = true) :: (tr 3 ++ ((decide (q < n) = true) :: [])))))))))))) followed (by kernel_rfl) (allP_of (trC 2 ⟨h1, ⟨h2, (trC 9 ⟨⟨(@Go.L12.rtextP (nI p)), rfl, rfl, rfl⟩, (trC 2 ⟨⟨(@Go.L12.rnumP (p)), rfl, rfl, rfl⟩, (trC 2 ⟨h3, (trC 3 ⟨h4, trivial⟩)⟩)⟩)⟩)⟩⟩)) (keepM 78 [2, 4, 5, 6, 7]) ([0, 1, 2, 6]) (by kernel_rfl) (by kernel_rfl) (by kernel_rfl)

theorem fMr_2 (m0 m1 m2 m3 m4 m5 m6 m8 : Int) (m9 : Bool) (m10 : ByteArray) (b : Bool) (kk : Nat) (rs : List (List AVal)) (p : RS) (n q : Int)
    (h1 : (!Prod.snd p) = false)
    (h2 : decide (q < n) = true) :
    TripN Try.prog 0 (loopNo Try.f23 0) (rgfM n q) (hfM m0 m1 m2 m3 m4 m5 m6 m8 m9 m10 b kk rs p) (AExit.exit 0) (mkR 78 [(2, AVal.ptr 0 11 0 0), (4, AVal.ptr 1 2 0 0), (5, AVal.ptr 2 11 0 0), (6, AVal.int IntKind.i64 n), (7, AVal.int IntKind.i64 q)]) ([AObj.rows false 11 [[AVal.int IntKind.i64 0, AVal.int IntKind.i64 0, AVal.int IntKind.i64 0, AVal.int IntKind.i64 0, AVal.int IntKind.i64 0, AVal.int IntKind.i64 0, AVal.int IntKind.i64 0, AVal.fsl true 0 [] (some 0), AVal.int IntKind.i64 0, AVal.tt false, AVal.str (ByteArray.mk #[])]], oin p, AObj.rows false 11 [(rM m0 m1 m2 m3 m4 m5 m6 (AVal.slc b 3 2 0 kk none) m8 m9 m10)], AObj.rows true 2 rs]) :=
  evalT (st := St.mk (rgfM n q) (hfM m0 m1 m2 m3 m4 m5 m6 m8 m9 m10 b kk rs p) ([Dec.br true, Dec.br false]) []) (st' := St.mk (mkR 78 [(2, AVal.ptr 0 11 0 0), (4, AVal.ptr 1 2 0 0), (5, AVal.ptr 2 11 0 0), (6, AVal.int IntKind.i64 n), (7, AVal.int IntKind.i64 q), (45, AVal.int IntKind.i64 q), (46, AVal.int IntKind.i64 n), (47, AVal.bool (decide (q < n))), (48, AVal.tt true), (49, AVal.ptr 1 2 0 0), (50, AVal.ptr 1 2 0 0), (51, AVal.ptr 1 2 0 1), (52, AVal.bool (Prod.snd p)), (53, AVal.bool !Prod.snd p), (54, AVal.tt false)]) ([AObj.rows false 11 [[AVal.int IntKind.i64 0, AVal.int IntKind.i64 0, AVal.int IntKind.i64 0, AVal.int IntKind.i64 0, AVal.int IntKind.i64 0, AVal.int IntKind.i64 0, AVal.int IntKind.i64 0, AVal.fsl true 0 [] (some 0), AVal.int IntKind.i64 0, AVal.tt false, AVal.str (ByteArray.mk #[])]], oin p, AObj.rows false 11 [(rM m0 m1 m2 m3 m4 m5 m6 (AVal.slc b 3 2 0 kk none) m8 m9 m10)], AObj.rows true 2 rs]) ([]) (((!Prod.snd p) = false) :: (tr 3 ++ ((decide (q < n) = true) :: [])))) followed (by kernel_rfl) (allP_of ⟨h1, (trC 3 ⟨h2, trivial⟩)⟩) (keepM 78 [2, 4, 5, 6, 7]) ([0, 1, 2, 3]) (by kernel_rfl) (by kernel_rfl) (by kernel_rfl)

def fMr_T (m0 m1 m2 m3 m4 m5 m6 m8 : Int) (m9 : Bool) (m10 : ByteArray) (b : Bool) (kk : Nat) (rs : List (List AVal)) (p : RS) (n q : Int) (Q : AExit → Regs → AState → Prop) : Prop := (decide (q < n) = true) ∧ (((!Prod.snd p) = true) → (decide ((kk + 1) * 24 ≤ 140737488355328 ∧ kk + 1 ≤ 9223372036854775807) = true) ∧ (decide (List.length rs = kk) = true) ∧ Q (AExit.normal) (mkR 78 [(2, AVal.ptr 0 11 0 0), (4, AVal.ptr 1 2 0 0), (5, AVal.ptr 2 11 0 0), (6, AVal.int IntKind.i64 n), (7, AVal.int IntKind.i64 (IntKind.wrap IntKind.i64 (q + 1)))]) ([AObj.rows false 11 [[AVal.int IntKind.i64 0, AVal.int IntKind.i64 0, AVal.int IntKind.i64 0, AVal.int IntKind.i64 0, AVal.int IntKind.i64 0, AVal.int IntKind.i64 0, AVal.int IntKind.i64 0, AVal.fsl true 0 [] (some 0), AVal.int IntKind.i64 0, AVal.tt false, AVal.str (ByteArray.mk #[])]], oin (nT (nI p)), AObj.rows false 11 [(rM m0 m1 m2 m3 m4 m5 m6 (AVal.slc (b && false) 3 2 0 (kk + 1) none) m8 m9 m10)], AObj.rows true 2 (rs ++ [[AVal.int IntKind.i64 (vI p), AVal.str (vT (nI p))]])])) ∧ (((!Prod.snd p) = false) → Q (AExit.exit 0) (mkR 78 [(2, AVal.ptr 0 11 0 0), (4, AVal.ptr 1 2 0 0), (5, AVal.ptr 2 11 0 0), (6, AVal.int IntKind.i64 n), (7, AVal.int IntKind.i64 q)]) ([AObj.rows false 11 [[AVal.int IntKind.i64 0, AVal.int IntKind.i64 0, AVal.int IntKind.i64 0, AVal.int IntKind.i64 0, AVal.int IntKind.i64 0, AVal.int IntKind.i64 0, AVal.int IntKind.i64 0, AVal.fsl true 0 [] (some 0), AVal.int IntKind.i64 0, AVal.tt false, AVal.str (ByteArray.mk #[])]], oin p, AObj.rows false 11 [(rM m0 m1 m2 m3 m4 m5 m6 (AVal.slc b 3 2 0 kk none) m8 m9 m10)], AObj.rows true 2 rs]))
theorem fMr_wp (m0 m1 m2 m3 m4 m5 m6 m8 : Int) (m9 : Bool) (m10 : ByteArray) (b : Bool) (kk : Nat) (rs : List (List AVal)) (p : RS) (n q : Int) {Q : AExit → Regs → AState → Prop} (h : fMr_T m0 m1 m2 m3 m4 m5 m6 m8 m9 m10 b kk rs p n q Q) : ∃ e rg' σ', TripN Try.prog 0 (loopNo Try.f23 0) (rgfM n q) (hfM m0 m1 m2 m3 m4 m5 m6 m8 m9 m10 b kk rs p) e rg' σ' ∧ Q e rg' σ' :=
  brE (fun (c0 : (!Prod.snd p) = true) => ⟨_, _, _, fMr_1 m0 m1 m2 m3 m4 m5 m6 m8 m9 m10 b kk rs p n q ((h.2.1 c0).2.1) ((h.2.1 c0).1) (c0) (h.1), (h.2.1 c0).2.2⟩) (fun (c0 : (!Prod.snd p) = false) => ⟨_, _, _, fMr_2 m0 m1 m2 m3 m4 m5 m6 m8 m9 m10 b kk rs p n q (c0) (h.1), (h.2.2 c0)⟩)


theorem fMx_1 (m0 m1 m2 m3 m4 m5 m6 m8 : Int) (m9 : Bool) (m10 : ByteArray) (b : Bool) (kk : Nat) (rs : List (List AVal)) (p : RS) (n q : Int)
    (h1 : decide (q < n) = false) :
    TripN Try.prog 0 (loopNo Try.f23 0) (rgfM n q) (hfM m0 m1 m2 m3 m4 m5 m6 m8 m9 m10 b kk rs p) (AExit.exit 0) (mkR 78 [(2, AVal.ptr 0 11 0 0), (4, AVal.ptr 1 2 0 0), (5, AVal.ptr 2 11 0 0), (6, AVal.int IntKind.i64 n), (7, AVal.int IntKind.i64 q)]) ([AObj.rows false 11 [[AVal.int IntKind.i64 0, AVal.int IntKind.i64 0, AVal.int IntKind.i64 0, AVal.int IntKind.i64 0, AVal.int IntKind.i64 0, AVal.int IntKind.i64 0, AVal.int IntKind.i64 0, AVal.fsl true 0 [] (some 0), AVal.int IntKind.i64 0, AVal.tt false, AVal.str (ByteArray.mk #[])]], oin p, AObj.rows false 11 [(rM m0 m1 m2 m3 m4 m5 m6 (AVal.slc b 3 2 0 kk none) m8 m9 m10)], AObj.rows true 2 rs]) :=
  evalT (st := St.mk (rgfM n q) (hfM m0 m1 m2 m3 m4 m5 m6 m8 m9 m10 b kk rs p) ([Dec.br false]) []) (st' := St.mk (mkR 78 [(2, AVal.ptr 0 11 0 0), (4, AVal.ptr 1 2 0 0), (5, AVal.ptr 2 11 0 0), (6, AVal.int IntKind.i64 n), (7, AVal.int IntKind.i64 q), (45, AVal.int IntKind.i64 q), (46, AVal.int IntKind.i64 n), (47, AVal.bool (decide (q < n))), (48, AVal.tt false), (49, AVal.tuple []), (50, AVal.tuple []), (51, AVal.tuple []), (52, AVal.tuple []), (53, AVal.tuple []), (54, AVal.tt false)]) ([AObj.rows false 11 [[AVal.int IntKind.i64 0, AVal.int IntKind.i64 0, AVal.int IntKind.i64 0, AVal.int IntKind.i64 0, AVal.int IntKind.i64 0, AVal.int IntKind.i64 0, AVal.int IntKind.i64 0, AVal.fsl true 0 [] (some 0), AVal.int IntKind.i64 0, AVal.tt false, AVal.str (ByteArray.mk #[])]], oin p, AObj.rows false 11 [(rM m0 m1 m2 m3 m4 m5 m6 (AVal.slc b 3 2 0 kk none) m8 m9 m10)], AObj.rows true 2 rs]) ([]) ((decide (q < n) = false) :: [])) followed (by kernel_rfl) (allP_of ⟨h1, trivial⟩) (keepM 78 [2, 4, 5, 6, 7]) ([0, 1, 2, 3]) (by kernel_rfl) (by kernel_rfl) (by kernel_rfl)

def fMx_T (m0 m1 m2 m3 m4 m5 m6 m8 : Int) (m9 : Bool) (m10 : ByteArray) (b : Bool) (kk : Nat) (rs : List (List AVal)) (p : RS) (n q : Int) (Q : AExit → Regs → AState → Prop) : Prop := (decide (q < n) = false) ∧ Q (AExit.exit 0) (mkR 78 [(2, AVal.ptr 0 11 0 0), (4, AVal.ptr 1 2 0 0), (5, AVal.ptr 2 11 0 0), (6, AVal.int IntKind.i64 n), (7, AVal.int IntKind.i64 q)]) ([AObj.rows false 11 [[AVal.int IntKind.i64 0, AVal.int IntKind.i64 0, AVal.int IntKind.i64 0, AVal.int IntKind.i64 0, AVal.int IntKind.i64 0, AVal.int IntKind.i64 0, AVal.int IntKind.i64 0, AVal.fsl true 0 [] (some 0), AVal.int IntKind.i64 0, AVal.tt false, AVal.str (ByteArray.mk #[])]], oin p, AObj.rows false 11 [(rM m0 m1 m2 m3 m4 m5 m6 (AVal.slc b 3 2 0 kk none) m8 m9 m10)], AObj.rows true 2 rs])
theorem fMx_wp (m0 m1 m2 m3 m4 m5 m6 m8 : Int) (m9 : Bool) (m10 : ByteArray) (b : Bool) (kk : Nat) (rs : List (List AVal)) (p : RS) (n q : Int) {Q : AExit → Regs → AState → Prop} (h : fMx_T m0 m1 m2 m3 m4 m5 m6 m8 m9 m10 b kk rs p n q Q) : ∃ e rg' σ', TripN Try.prog 0 (loopNo Try.f23 0) (rgfM n q) (hfM m0 m1 m2 m3 m4 m5 m6 m8 m9 m10 b kk rs p) e rg' σ' ∧ Q e rg' σ' :=
  ⟨_, _, _, fMx_1 m0 m1 m2 m3 m4 m5 m6 m8 m9 m10 b kk rs p n q (h.1), h.2⟩


end Go.L12
end

section
set_option linter.unusedVariables false
set_option linter.unusedSimpArgs false
set_option maxRecDepth 100000
namespace Go.L12
open Go Go.Abs Go.Proofs
theorem fM_loop (m0 m1 m2 m3 m4 m5 m6 m8 : Int) (m9 : Bool) (m10 : ByteArray) (n : Nat) (hn : n ≤ 64) : ∀ (d q : Nat), q + d = n → ∀ (u : List (List AVal)) (p : RS), u.length ≤ q →
    ∃ k : Int, LoopRun Try.prog 0 (loopNo Try.f23 0) (rgfM (n : Nat) (q : Nat)) (hfM m0 m1 m2 m3 m4 m5 m6 m8 m9 m10 u.isEmpty u.length u p) (.exit 0) (rgfM (n : Nat) k) (hfM m0 m1 m2 m3 m4 m5 m6 m8 m9 m10 (u ++ (rdN 111 d p).1).isEmpty (u ++ (rdN 111 d p).1).length (u ++ (rdN 111 d p).1) (rdN 111 d p).2)
  | 0, q, hq, u, p, hu => by
    refine ⟨(q : Nat), ?_⟩
    have e : rdN 111 0 p = ([], p) := rfl
    rw [e]
    simp only [List.append_nil]
    exact .done (TripN.wp (fMx_wp m0 m1 m2 m3 m4 m5 m6 m8 m9 m10 u.isEmpty u.length u p (n : Nat) (q : Nat) ⟨decide_eq_false (by omega), rfl, rfl, rfl⟩)) (by simp)
  | d + 1, q, hq, u, p, hu => by
    have w1 : IntKind.wrap .i64 ((q : Int) + 1) = ((q + 1 : Nat) : Int) := by rw [wrapS (by omega) (by omega)]; omega
    cases hp : p.2 with
    | true =>
      refine ⟨(q : Nat), ?_⟩
      have e : rdN 111 (d + 1) p = ([], p) := by simp only [rdN]; rw [if_pos hp]
      rw [e]
      simp only [List.append_nil]
      refine .done (TripN.wp (fMr_wp m0 m1 m2 m3 m4 m5 m6 m8 m9 m10 u.isEmpty u.length u p (n : Nat) (q : Nat) ?_)) (by simp)
      unfold fMr_T
      exact ⟨decide_eq_true (by omega), fun c => absurd c (by rw [hp]; simp), fun _ => ⟨rfl, rfl, rfl⟩⟩
    | false =>
      have e : rdN 111 (d + 1) p = ((rdR 111 p).1 :: (rdN 111 d (rdR 111 p).2).1, (rdN 111 d (rdR 111 p).2).2) := by simp only [rdN]; rw [if_neg (by rw [hp]; simp)]
      obtain ⟨k, ih⟩ := fM_loop m0 m1 m2 m3 m4 m5 m6 m8 m9 m10 n hn d (q + 1) (by omega) (u ++ [(rdR 111 p).1]) (rdR 111 p).2 (by simp; omega)
      refine ⟨k, ?_⟩
      rw [e]
      rw [List.append_assoc] at ih
      refine .more ?_ ih
      refine TripN.wp (fMr_wp m0 m1 m2 m3 m4 m5 m6 m8 m9 m10 u.isEmpty u.length u p (n : Nat) (q : Nat) ?_)
      unfold fMr_T
      rw [w1]
      refine ⟨decide_eq_true (by omega), fun _ => ⟨decide_eq_true (by omega), decide_eq_true rfl, rfl, rfl, ?_⟩, fun c => absurd c (by rw [hp]; simp)⟩
      rw [Bool.and_false, List.length_append, show (u ++ [(rdR 111 p).1]).isEmpty = false by cases u <;> rfl]
      rfl
theorem fM_list (m0 m1 m2 m3 m4 m5 m6 m8 : Int) (m9 : Bool) (m10 : ByteArray) (n : Nat) (hn : n ≤ 64) (p : RS) :
    TripN Try.prog 0 (.loop (loopNo Try.f23 0)) (rgfM (n : Nat) 0) [.rows false 11 [[.int .i64 0, .int .i64 0, .int .i64 0, .int .i64 0, .int .i64 0, .int .i64 0, .int .i64 0, .fsl true 0 [] (some 0), .int .i64 0, .tt false, .str ⟨#[]⟩]], .rows true 2 [[.str p.1, .bool p.2]], .rows false 11 [(rM m0 m1 m2 m3 m4 m5 m6 (.fsl true 0 [] (some 0)) m8 m9 m10)]] (.exit 0) (mkR 78 [(2, .ptr 0 11 0 0), (4, .ptr 1 2 0 0), (5, .ptr 2 11 0 0)]) [.rows false 11 [[.int .i64 0, .int .i64 0, .int .i64 0, .int .i64 0, .int .i64 0, .int .i64 0, .int .i64 0, .fsl true 0 [] (some 0), .int .i64 0, .tt false, .str ⟨#[]⟩]], .rows true 2 [[.str (rdN 111 n p).2.1, .bool (rdN 111 n p).2.2]], .rows true 11 [(rM m0 m1 m2 m3 m4 m5 m6 (listV (rdN 111 n p).1) m8 m9 m10)]] := by
  obtain ⟨k, r⟩ := fM_loop m0 m1 m2 m3 m4 m5 m6 m8 m9 m10 n hn n 0 (by omega) [] p (by simp)
  rw [List.nil_append] at r
  have h1 := TripN.freezeCell r.trip (id := 2) (id2 := 3) (j := 7) (es := 11) (es2 := 2) (off := 0) (len := (rdN 111 n p).1.length) (nl := (rdN 111 n p).1.isEmpty) (p := true) (cap := none) (row := (rM m0 m1 m2 m3 m4 m5 m6 (.slc (rdN 111 n p).1.isEmpty 3 2 0 (rdN 111 n p).1.length none) m8 m9 m10)) (rs := (rdN 111 n p).1) rfl rfl rfl (by decide) rfl (by omega) (fun q v hv hne => by
    match q, hv, hne with
    | 0, hv, hne => cases hv; rfl
    | 1, hv, hne => cases hv; rfl
    | 2, hv, hne => cases hv; rfl
    | 3, hv, hne => cases hv; rfl
    | 4, hv, hne => cases hv; rfl
    | 5, hv, hne => cases hv; rfl
    | 6, hv, hne => cases hv; rfl
    | 7, hv, hne => exact absurd rfl hne
    | 8, hv, hne => cases hv; rfl
    | 9, hv, hne => cases hv; rfl
    | 10, hv, hne => cases hv; rfl
    | q + 11, hv, hne => exact absurd hv (by simp))
  rw [List.drop_zero, List.take_length] at h1
  have h2 := h1.post (rg2 := (mkR 78 [(2, .ptr 0 11 0 0), (4, .ptr 1 2 0 0), (5, .ptr 2 11 0 0)])) (σ2 := [.rows false 11 [[.int .i64 0, .int .i64 0, .int .i64 0, .int .i64 0, .int .i64 0, .int .i64 0, .int .i64 0, .fsl true 0 [] (some 0), .int .i64 0, .tt false, .str ⟨#[]⟩]], .rows true 2 [[.str (rdN 111 n p).2.1, .bool (rdN 111 n p).2.2]], .rows true 11 [(rM m0 m1 m2 m3 m4 m5 m6 (listV (rdN 111 n p).1) m8 m9 m10)]]) (keepM 78 [2, 4, 5]) [0, 1, 2] (by kernel_rfl) rfl (by kernel_rfl)
  refine TripN.ext (S := [.rows false 11 [[.int .i64 0, .int .i64 0, .int .i64 0, .int .i64 0, .int .i64 0, .int .i64 0, .int .i64 0, .fsl true 0 [] (some 0), .int .i64 0, .tt false, .str ⟨#[]⟩]], .rows true 2 [[.str p.1, .bool p.2]], .rows false 11 [(rM m0 m1 m2 m3 m4 m5 m6 (.fsl true 0 [] (some 0)) m8 m9 m10)], .rows true 2 []]) ?_ rfl
  refine TripN.weakCell (id := 2) (es' := 11) (rs := [(rM m0 m1 m2 m3 m4 m5 m6 (.fsl true 0 [] (some 0)) m8 m9 m10)]) (i := 0) (j := 7) (v' := (.slc true 3 2 0 0 none)) ?_ rfl (Imp.nilSlc _ _ _ _ _)
  exact h2
end Go.L12
end

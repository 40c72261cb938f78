import Derived.Test.YtjkmndfipanalaaL12g3
section
set_option linter.unusedVariables false
set_option maxRecDepth 100000
namespace Go.L12
open Go Go.Abs Go.Proofs
def rgMl (i : Int) : Regs := mkR 71 [(1, .ptr 0 11 0 0), (3, .int .i64 i)]
def rgMr : Regs := mkR 71 [(2, .bool true)]
theorem ml_1 (m0 m1 m2 m3 m4 m5 m6 m8 : Int) (m9 : Bool) (m10 : ByteArray) (nb : Bool) (rs : List (List AVal)) (i : Int) (b : Bool)
    (h1 : FOk Try.prog 14 [] [] (AVal.bool true) [])
    (h2 : (!b) = true)
    (h3 : FOk Try.prog 13 [AVal.str (AVal.toStr (List.getD (List.getD rs (Int.toNat i) []) 1 AVal.any))] [] (AVal.bool b) [])
    (h4 : decide (Int.toNat i < List.length rs) = true)
    (h5 : areKinds [Kind.str] [List.getD (List.getD rs (Int.toNat i) []) 1 AVal.any] = true)
    (h6 : decide (0 ≤ i ∧ i < (↑(List.length rs) : Int)) = true)
    (h7 : decide (i < (↑(List.length rs) : Int)) = true) :
    TripN Try.prog 0 (loopNo Try.f7 0) (rgMl i) ([AObj.rows false 11 [rM m0 m1 m2 m3 m4 m5 m6 (AVal.fsl nb 2 rs none) m8 m9 m10]]) (AExit.ret) (mkR 71 [(2, AVal.bool true)]) ([]) :=
  evalT (st := St.mk (rgMl i) ([AObj.rows false 11 [rM m0 m1 m2 m3 m4 m5 m6 (AVal.fsl nb 2 rs none) m8 m9 m10]]) ([Dec.br true, Dec.use [] [AVal.str (AVal.toStr (List.getD (List.getD rs (Int.toNat i) []) 1 AVal.any))] [] (AVal.bool b) [], Dec.br true, Dec.use [] [] [] (AVal.bool true) []]) []) (st' := St.mk (mkR 71 [(1, AVal.ptr 0 11 0 0), (2, AVal.bool true), (3, iI i), (10, iI i), (11, AVal.ptr 0 11 0 7), (12, AVal.fsl nb 2 rs none), (13, iI (↑(List.length rs) : Int)), (14, AVal.tt true), (17, AVal.ptr 0 11 0 7), (18, AVal.fsl nb 2 rs none), (19, iI i), (20, AVal.fptr 2 rs (Int.toNat i) 0), (21, AVal.fptr 2 rs (Int.toNat i) 1), (22, AVal.str (AVal.toStr (List.getD (List.getD rs (Int.toNat i) []) 1 AVal.any))), (23, AVal.bool b), (24, AVal.bool !b), (25, AVal.tt true), (26, AVal.tuple []), (27, AVal.tuple []), (28, AVal.tt true), (29, AVal.bool true)]) ([AObj.rows false 11 [(rM m0 m1 m2 m3 m4 m5 m6 (AVal.fsl nb 2 rs none) m8 m9 m10)]]) ([]) ((Owed.use (owed Try.prog 0) 14 [] [] [AObj.rows false 11 [(rM m0 m1 m2 m3 m4 m5 m6 (AVal.fsl nb 2 rs none) m8 m9 m10)]] [] [] (AVal.bool true) []) :: (((!b) = true) :: ((Owed.use (owed Try.prog 0) 13 [] [AVal.str (AVal.toStr (List.getD (List.getD rs (Int.toNat i) []) 1 AVal.any))] [AObj.rows false 11 [(rM m0 m1 m2 m3 m4 m5 m6 (AVal.fsl nb 2 rs none) m8 m9 m10)]] [AVal.str (AVal.toStr (List.getD (List.getD rs (Int.toNat i) []) 1 AVal.any))] [] (AVal.bool b) []) :: ((decide (Int.toNat i < List.length rs) = true) :: (tr 1 ++ ((areKinds [Kind.str] [List.getD (List.getD rs (Int.toNat i) []) 1 AVal.any] = true) :: ((decide (0 ≤ i ∧ i < (↑(List.length rs) : Int)) = true) :: (tr 2 ++ ((decide (i < (↑(List.length rs) : Int)) = true) :: (tr 2 ++ []))))))))))) followed (by kernel_rfl) (allP_of ⟨⟨h1, rfl, rfl, rfl⟩, ⟨h2, ⟨⟨h3, rfl, rfl, rfl⟩, ⟨h4, (trC 1 ⟨h5, ⟨h6, (trC 2 ⟨h7, (trC 2 trivial)⟩)⟩⟩)⟩⟩⟩⟩) (keepM 71 [2]) ([]) (by kernel_rfl) (by kernel_rfl) (by kernel_rfl)

theorem ml_2 (m0 m1 m2 m3 m4 m5 m6 m8 : Int) (m9 : Bool) (m10 : ByteArray) (nb : Bool) (rs : List (List AVal)) (i : Int) (b : Bool)
    (h1 : FOk Try.prog 14 [] [] (AVal.bool true) [])
    (h2 : decide (i > 20) = true)
    (h3 : (!b) = false)
    (h4 : FOk Try.prog 13 [AVal.str (AVal.toStr (List.getD (List.getD rs (Int.toNat i) []) 1 AVal.any))] [] (AVal.bool b) [])
    (h5 : decide (Int.toNat i < List.length rs) = true)
    (h6 : areKinds [Kind.str] [List.getD (List.getD rs (Int.toNat i) []) 1 AVal.any] = true)
    (h7 : decide (0 ≤ i ∧ i < (↑(List.length rs) : Int)) = true)
    (h8 : decide (i < (↑(List.length rs) : Int)) = true) :
    TripN Try.prog 0 (loopNo Try.f7 0) (rgMl i) ([AObj.rows false 11 [rM m0 m1 m2 m3 m4 m5 m6 (AVal.fsl nb 2 rs none) m8 m9 m10]]) (AExit.ret) (mkR 71 [(2, AVal.bool true)]) ([]) :=
  evalT (st := St.mk (rgMl i) ([AObj.rows false 11 [rM m0 m1 m2 m3 m4 m5 m6 (AVal.fsl nb 2 rs none) m8 m9 m10]]) ([Dec.br true, Dec.use [] [AVal.str (AVal.toStr (List.getD (List.getD rs (Int.toNat i) []) 1 AVal.any))] [] (AVal.bool b) [], Dec.br false, Dec.br true, Dec.use [] [] [] (AVal.bool true) []]) []) (st' := St.mk (mkR 71 [(1, AVal.ptr 0 11 0 0), (2, AVal.bool true), (3, iI i), (10, iI i), (11, AVal.ptr 0 11 0 7), (12, AVal.fsl nb 2 rs none), (13, iI (↑(List.length rs) : Int)), (14, AVal.tt true), (17, AVal.ptr 0 11 0 7), (18, AVal.fsl nb 2 rs none), (19, iI i), (20, AVal.fptr 2 rs (Int.toNat i) 0), (21, AVal.fptr 2 rs (Int.toNat i) 1), (22, AVal.str (AVal.toStr (List.getD (List.getD rs (Int.toNat i) []) 1 AVal.any))), (23, AVal.bool b), (24, AVal.bool !b), (25, AVal.tt false), (26, iI i), (27, AVal.bool (decide (i > 20))), (28, AVal.tt true), (29, AVal.bool true)]) ([AObj.rows false 11 [(rM m0 m1 m2 m3 m4 m5 m6 (AVal.fsl nb 2 rs none) m8 m9 m10)]]) ([]) ((Owed.use (owed Try.prog 0) 14 [] [] [AObj.rows false 11 [(rM m0 m1 m2 m3 m4 m5 m6 (AVal.fsl nb 2 rs none) m8 m9 m10)]] [] [] (AVal.bool true) []) :: ((decide (i > 20) = true) :: (((!b) = false) :: ((Owed.use (owed Try.prog 0) 13 [] [AVal.str (AVal.toStr (List.getD (List.getD rs (Int.toNat i) []) 1 AVal.any))] [AObj.rows false 11 [(rM m0 m1 m2 m3 m4 m5 m6 (AVal.fsl nb 2 rs none) m8 m9 m10)]] [AVal.str (AVal.toStr (List.getD (List.getD rs (Int.toNat i) []) 1 AVal.any))] [] (AVal.bool b) []) :: ((decide (Int.toNat i < List.length rs) = true) :: (tr 1 ++ ((areKinds [Kind.str] [List.getD (List.getD rs (Int.toNat i) []) 1 AVal.any] = true) :: ((decide (0 ≤ i ∧ i < (↑(List.length rs) : Int)) = true) :: (tr 2 ++ ((decide (i < (↑(List.length rs) : Int)) = true) :: (tr 2 ++ [])))))))))))) followed (by kernel_rfl) (allP_of ⟨⟨h1, rfl, rfl, rfl⟩, ⟨h2, ⟨h3, ⟨⟨h4, rfl, rfl, rfl⟩, ⟨h5, (trC 1 ⟨h6, ⟨h7, (trC 2 ⟨h8, (trC 2 trivial)⟩)⟩⟩)⟩⟩⟩⟩⟩) (keepM 71 [2]) ([]) (by kernel_rfl) (by kernel_rfl) (by kernel_rfl)

theorem ml_3 (m0 m1 m2 m3 m4 m5 m6 m8 : Int) (m9 : Bool) (m10 : ByteArray) (nb : Bool) (rs : List (List AVal)) (i : Int) (b : Bool)
    (h1 : decide (i > 20) = false)
    (h2 : (!b) = false)
    (h3 : FOk Try.prog 13 [AVal.str (AVal.toStr (List.getD (List.getD rs (Int.toNat i) []) 1 AVal.any))] [] (AVal.bool b) [])
    (h4 : decide (Int.toNat i < List.length rs) = true)
    (h5 : areKinds [Kind.str] [List.getD (List.getD rs (Int.toNat i) []) 1 AVal.any] = true)
    (h6 : decide (0 ≤ i ∧ i < (↑(List.length rs) : Int)) = true)
    (h7 : decide (i < (↑(List.length rs) : Int)) = true) :
    TripN Try.prog 0 (loopNo Try.f7 0) (rgMl i) ([AObj.rows false 11 [rM m0 m1 m2 m3 m4 m5 m6 (AVal.fsl nb 2 rs none) m8 m9 m10]]) (AExit.normal) (mkR 71 [(1, AVal.ptr 0 11 0 0), (3, iI (IntKind.wrap IntKind.i64 (i + 1)))]) ([AObj.rows false 11 [(rM m0 m1 m2 m3 m4 m5 m6 (AVal.fsl nb 2 rs none) m8 m9 m10)]]) :=
  evalT (st := St.mk (rgMl i) ([AObj.rows false 11 [rM m0 m1 m2 m3 m4 m5 m6 (AVal.fsl nb 2 rs none) m8 m9 m10]]) ([Dec.br true, Dec.use [] [AVal.str (AVal.toStr (List.getD (List.getD rs (Int.toNat i) []) 1 AVal.any))] [] (AVal.bool b) [], Dec.br false, Dec.br false]) []) (st' := St.mk (mkR 71 [(1, AVal.ptr 0 11 0 0), (3, iI (IntKind.wrap IntKind.i64 (i + 1))), (10, iI i), (11, AVal.ptr 0 11 0 7), (12, AVal.fsl nb 2 rs none), (13, iI (↑(List.length rs) : Int)), (14, AVal.tt true), (15, iI i), (16, iI (IntKind.wrap IntKind.i64 (i + 1))), (17, AVal.ptr 0 11 0 7), (18, AVal.fsl nb 2 rs none), (19, iI i), (20, AVal.fptr 2 rs (Int.toNat i) 0), (21, AVal.fptr 2 rs (Int.toNat i) 1), (22, AVal.str (AVal.toStr (List.getD (List.getD rs (Int.toNat i) []) 1 AVal.any))), (23, AVal.bool b), (24, AVal.bool !b), (25, AVal.tt false), (26, iI i), (27, AVal.bool (decide (i > 20))), (28, AVal.tt false)]) ([AObj.rows false 11 [(rM m0 m1 m2 m3 m4 m5 m6 (AVal.fsl nb 2 rs none) m8 m9 m10)]]) ([]) ((decide (i > 20) = false) :: (((!b) = false) :: ((Owed.use (owed Try.prog 0) 13 [] [AVal.str (AVal.toStr (List.getD (List.getD rs (Int.toNat i) []) 1 AVal.any))] [AObj.rows false 11 [(rM m0 m1 m2 m3 m4 m5 m6 (AVal.fsl nb 2 rs none) m8 m9 m10)]] [AVal.str (AVal.toStr (List.getD (List.getD rs (Int.toNat i) []) 1 AVal.any))] [] (AVal.bool b) []) :: ((decide (Int.toNat i < List.length rs) = true) :: (tr 1 ++ ((areKinds [Kind.str] [List.getD (List.getD rs (Int.toNat i) []) 1 AVal.any] = true) :: ((decide (0 ≤ i ∧ i < (↑(List.length rs) : Int)) = true) :: (tr 2 ++ ((decide (i < (↑(List.length rs) : Int)) = true) :: (tr 2 ++ []))))))))))) followed (by kernel_rfl) (allP_of ⟨h1, ⟨h2, ⟨⟨h3, rfl, rfl, rfl⟩, ⟨h4, (trC 1 ⟨h5, ⟨h6, (trC 2 ⟨h7, (trC 2 trivial)⟩)⟩⟩)⟩⟩⟩⟩) (keepM 71 [1, 2, 3]) ([0]) (by kernel_rfl) (by kernel_rfl) (by kernel_rfl)

theorem ml_4 (m0 m1 m2 m3 m4 m5 m6 m8 : Int) (m9 : Bool) (m10 : ByteArray) (nb : Bool) (rs : List (List AVal)) (i : Int) (b : Bool)
    (h1 : decide (i < (↑(List.length rs) : Int)) = false) :
    TripN Try.prog 0 (loopNo Try.f7 0) (rgMl i) ([AObj.rows false 11 [rM m0 m1 m2 m3 m4 m5 m6 (AVal.fsl nb 2 rs none) m8 m9 m10]]) (AExit.exit 0) (mkR 71 [(1, AVal.ptr 0 11 0 0), (3, iI i)]) ([AObj.rows false 11 [(rM m0 m1 m2 m3 m4 m5 m6 (AVal.fsl nb 2 rs none) m8 m9 m10)]]) :=
  evalT (st := St.mk (rgMl i) ([AObj.rows false 11 [rM m0 m1 m2 m3 m4 m5 m6 (AVal.fsl nb 2 rs none) m8 m9 m10]]) ([Dec.br false]) []) (st' := St.mk (mkR 71 [(1, AVal.ptr 0 11 0 0), (3, iI i), (10, iI i), (11, AVal.ptr 0 11 0 7), (12, AVal.fsl nb 2 rs none), (13, iI (↑(List.length rs) : Int)), (14, AVal.tt false)]) ([AObj.rows false 11 [(rM m0 m1 m2 m3 m4 m5 m6 (AVal.fsl nb 2 rs none) m8 m9 m10)]]) ([]) ((decide (i < (↑(List.length rs) : Int)) = false) :: (tr 2 ++ []))) followed (by kernel_rfl) (allP_of ⟨h1, (trC 2 trivial)⟩) (keepM 71 [1, 2, 3]) ([0]) (by kernel_rfl) (by kernel_rfl) (by kernel_rfl)

def ml_T (m0 m1 m2 m3 m4 m5 m6 m8 : Int) (m9 : Bool) (m10 : ByteArray) (nb : Bool) (rs : List (List AVal)) (i : Int) (b : Bool) (Q : AExit → Regs → AState → Prop) : Prop := ((decide (i < (↑(List.length rs) : Int)) = true) → (decide (0 ≤ i ∧ i < (↑(List.length rs) : Int)) = true) ∧ (areKinds [Kind.str] [List.getD (List.getD rs (Int.toNat i) []) 1 AVal.any] = true) ∧ (decide (Int.toNat i < List.length rs) = true) ∧ (FOk Try.prog 13 [AVal.str (AVal.toStr (List.getD (List.getD rs (Int.toNat i) []) 1 AVal.any))] [] (AVal.bool b) []) ∧ (((!b) = true) → (FOk Try.prog 14 [] [] (AVal.bool true) []) ∧ Q (AExit.ret) (mkR 71 [(2, AVal.bool true)]) ([])) ∧ (((!b) = false) → ((decide (i > 20) = true) → (FOk Try.prog 14 [] [] (AVal.bool true) []) ∧ Q (AExit.ret) (mkR 71 [(2, AVal.bool true)]) ([])) ∧ ((decide (i > 20) = false) → Q (AExit.normal) (mkR 71 [(1, AVal.ptr 0 11 0 0), (3, iI (IntKind.wrap IntKind.i64 (i + 1)))]) ([AObj.rows false 11 [(rM m0 m1 m2 m3 m4 m5 m6 (AVal.fsl nb 2 rs none) m8 m9 m10)]])))) ∧ ((decide (i < (↑(List.length rs) : Int)) = false) → Q (AExit.exit 0) (mkR 71 [(1, AVal.ptr 0 11 0 0), (3, iI i)]) ([AObj.rows false 11 [(rM m0 m1 m2 m3 m4 m5 m6 (AVal.fsl nb 2 rs none) m8 m9 m10)]]))
theorem ml_wp (m0 m1 m2 m3 m4 m5 m6 m8 : Int) (m9 : Bool) (m10 : ByteArray) (nb : Bool) (rs : List (List AVal)) (i : Int) (b : Bool) {Q : AExit → Regs → AState → Prop} (h : ml_T m0 m1 m2 m3 m4 m5 m6 m8 m9 m10 nb rs i b Q) : ∃ e rg' σ', TripN Try.prog 0 (loopNo Try.f7 0) (rgMl i) ([AObj.rows false 11 [rM m0 m1 m2 m3 m4 m5 m6 (AVal.fsl nb 2 rs none) m8 m9 m10]]) e rg' σ' ∧ Q e rg' σ' :=
  brE (fun (c0 : decide (i < (↑(List.length rs) : Int)) = true) => brE (fun (c1 : (!b) = true) => ⟨_, _, _, ml_1 m0 m1 m2 m3 m4 m5 m6 m8 m9 m10 nb rs i b (((h.1 c0).2.2.2.2.1 c1).1) (c1) ((h.1 c0).2.2.2.1) ((h.1 c0).2.2.1) ((h.1 c0).2.1) ((h.1 c0).1) (c0), ((h.1 c0).2.2.2.2.1 c1).2⟩) (fun (c1 : (!b) = false) => brE (fun (c2 : decide (i > 20) = true) => ⟨_, _, _, ml_2 m0 m1 m2 m3 m4 m5 m6 m8 m9 m10 nb rs i b ((((h.1 c0).2.2.2.2.2 c1).1 c2).1) (c2) (c1) ((h.1 c0).2.2.2.1) ((h.1 c0).2.2.1) ((h.1 c0).2.1) ((h.1 c0).1) (c0), (((h.1 c0).2.2.2.2.2 c1).1 c2).2⟩) (fun (c2 : decide (i > 20) = false) => ⟨_, _, _, ml_3 m0 m1 m2 m3 m4 m5 m6 m8 m9 m10 nb rs i b (c2) (c1) ((h.1 c0).2.2.2.1) ((h.1 c0).2.2.1) ((h.1 c0).2.1) ((h.1 c0).1) (c0), (((h.1 c0).2.2.2.2.2 c1).2 c2)⟩))) (fun (c0 : decide (i < (↑(List.length rs) : Int)) = false) => ⟨_, _, _, ml_4 m0 m1 m2 m3 m4 m5 m6 m8 m9 m10 nb rs i b (c0), (h.2 c0)⟩)


theorem cmsgR_1 (m0 m1 m2 m3 m4 m5 m6 m8 : Int) (m9 : Bool) (m10 : ByteArray) (nb : Bool) (rs : List (List AVal))
    (h1 : TripN Try.prog 0 (Code.loop (loopNo Try.f7 0)) (mkR 71 [(1, AVal.ptr 0 11 0 0), (3, iI 0)]) [AObj.rows false 11 [(rM m0 m1 m2 m3 m4 m5 m6 (AVal.fsl nb 2 rs none) m8 m9 m10)]] AExit.ret (mkR 71 [(2, AVal.bool true)]) []) :
    FOk Try.prog 7 ([AVal.agg (rM m0 m1 m2 m3 m4 m5 m6 (AVal.fsl nb 2 rs none) m8 m9 m10)]) ([]) (AVal.bool true) ([]) :=
  (evalF_ok followed Try.func7 (by kernel_rfl) (show evalF Try.prog Try.f7 ([AVal.agg (rM m0 m1 m2 m3 m4 m5 m6 (AVal.fsl nb 2 rs none) m8 m9 m10)]) ([]) ([Dec.compact (keepM 71 [1, 3]) [0], Dec.loop AExit.ret rgMr []]) = .ok (FRes.mk (AVal.bool true) ([]) ((Owed.loop (owed Try.prog 0) (loopNo Try.f7 0) (mkR 71 [(1, AVal.ptr 0 11 0 0), (3, iI 0)]) [AObj.rows false 11 [(rM m0 m1 m2 m3 m4 m5 m6 (AVal.fsl nb 2 rs none) m8 m9 m10)]] AExit.ret (mkR 71 [(2, AVal.bool true)]) []) :: [])) by kernel_rfl) (allP_of ⟨h1, trivial⟩)).move ([]) (by kernel_rfl) (by kernel_rfl) (by kernel_rfl)

def cmsgR_T (m0 m1 m2 m3 m4 m5 m6 m8 : Int) (m9 : Bool) (m10 : ByteArray) (nb : Bool) (rs : List (List AVal)) (Q : AVal → AState → Prop) : Prop := (TripN Try.prog 0 (Code.loop (loopNo Try.f7 0)) (mkR 71 [(1, AVal.ptr 0 11 0 0), (3, iI 0)]) [AObj.rows false 11 [(rM m0 m1 m2 m3 m4 m5 m6 (AVal.fsl nb 2 rs none) m8 m9 m10)]] AExit.ret (mkR 71 [(2, AVal.bool true)]) []) ∧ Q (AVal.bool true) ([])
theorem cmsgR_wp (m0 m1 m2 m3 m4 m5 m6 m8 : Int) (m9 : Bool) (m10 : ByteArray) (nb : Bool) (rs : List (List AVal)) {Q : AVal → AState → Prop} (h : cmsgR_T m0 m1 m2 m3 m4 m5 m6 m8 m9 m10 nb rs Q) : ∃ r σ', FOk Try.prog 7 ([AVal.agg (rM m0 m1 m2 m3 m4 m5 m6 (AVal.fsl nb 2 rs none) m8 m9 m10)]) ([]) r σ' ∧ Q r σ' :=
  ⟨_, _, cmsgR_1 m0 m1 m2 m3 m4 m5 m6 m8 m9 m10 nb rs (h.1), h.2⟩


theorem cmsg_1 (m0 m1 m2 m3 m4 m5 m6 m8 : Int) (m9 : Bool) (m10 : ByteArray) (nb mb : Bool) (rs : List (List AVal)) (i : Int) (b : Bool) (s : ByteArray) (e : Int)
    (h1 : FOk Try.prog 14 [] [] (AVal.bool true) [])
    (h2 : (!b) = true)
    (h3 : FOk Try.prog 13 [AVal.str m10] [] (AVal.bool b) [])
    (h4 : TripN Try.prog 0 (Code.loop (loopNo Try.f7 0)) (mkR 71 [(1, AVal.ptr 0 11 0 0), (3, iI 0)]) [AObj.rows false 11 [(rM m0 m1 m2 m3 m4 m5 m6 (AVal.fsl nb 2 rs none) m8 m9 m10)]] (AExit.exit 0) (mkR 71 [(1, AVal.ptr 0 11 0 0), (3, iI i)]) [AObj.rows false 11 [(rM m0 m1 m2 m3 m4 m5 m6 (AVal.fsl nb 2 rs none) m8 m9 m10)]]) :
    FOk Try.prog 7 ([AVal.agg (rM m0 m1 m2 m3 m4 m5 m6 (AVal.fsl nb 2 rs none) m8 m9 m10)]) ([]) (AVal.bool true) ([]) :=
  (evalF_ok followed Try.func7 (by kernel_rfl) (show evalF Try.prog Try.f7 ([AVal.agg (rM m0 m1 m2 m3 m4 m5 m6 (AVal.fsl nb 2 rs none) m8 m9 m10)]) ([]) ([Dec.compact (keepM 71 [1, 3]) [0], Dec.loop (AExit.exit 0) (rgMl i) [AObj.rows false 11 [rM m0 m1 m2 m3 m4 m5 m6 (AVal.fsl nb 2 rs none) m8 m9 m10]], Dec.use [] [AVal.str m10] [] (AVal.bool b) [], Dec.br true, Dec.use [] [] [] (AVal.bool true) []]) = .ok (FRes.mk (AVal.bool true) ([AObj.rows false 11 [(rM m0 m1 m2 m3 m4 m5 m6 (AVal.fsl nb 2 rs none) m8 m9 m10)]]) ((Owed.use (owed Try.prog 0) 14 [] [] [AObj.rows false 11 [(rM m0 m1 m2 m3 m4 m5 m6 (AVal.fsl nb 2 rs none) m8 m9 m10)]] [] [] (AVal.bool true) []) :: (((!b) = true) :: ((Owed.use (owed Try.prog 0) 13 [] [AVal.str m10] [AObj.rows false 11 [(rM m0 m1 m2 m3 m4 m5 m6 (AVal.fsl nb 2 rs none) m8 m9 m10)]] [AVal.str m10] [] (AVal.bool b) []) :: (tr 2 ++ ((Owed.loop (owed Try.prog 0) (loopNo Try.f7 0) (mkR 71 [(1, AVal.ptr 0 11 0 0), (3, iI 0)]) [AObj.rows false 11 [(rM m0 m1 m2 m3 m4 m5 m6 (AVal.fsl nb 2 rs none) m8 m9 m10)]] (AExit.exit 0) (mkR 71 [(1, AVal.ptr 0 11 0 0), (3, iI i)]) [AObj.rows false 11 [(rM m0 m1 m2 m3 m4 m5 m6 (AVal.fsl nb 2 rs none) m8 m9 m10)]]) :: [])))))) by kernel_rfl) (allP_of ⟨⟨h1, rfl, rfl, rfl⟩, ⟨h2, ⟨⟨h3, rfl, rfl, rfl⟩, (trC 2 ⟨h4, trivial⟩)⟩⟩⟩)).move ([]) (by kernel_rfl) (by kernel_rfl) (by kernel_rfl)

theorem cmsg_2 (m0 m1 m2 m3 m4 m5 m6 m8 : Int) (m9 : Bool) (m10 : ByteArray) (nb mb : Bool) (rs : List (List AVal)) (i : Int) (b : Bool) (s : ByteArray) (e : Int)
    (h1 : (!ByteArray.toList s == ByteArray.toList s) = true)
    (h2 : FOk Try.prog 20 [AVal.agg (rM m0 m1 m2 m3 m4 m5 m6 (AVal.fsl nb 2 rs none) m8 m9 m10)] [] (AVal.tuple [AVal.str s, iI e]) [])
    (h3 : FOk Try.prog 19 [AVal.agg (rM m0 m1 m2 m3 m4 m5 m6 (AVal.fsl nb 2 rs none) m8 m9 m10)] [] (AVal.tuple [AVal.str s, iI e]) [])
    (h4 : (!b) = false)
    (h5 : FOk Try.prog 13 [AVal.str m10] [] (AVal.bool b) [])
    (h6 : TripN Try.prog 0 (Code.loop (loopNo Try.f7 0)) (mkR 71 [(1, AVal.ptr 0 11 0 0), (3, iI 0)]) [AObj.rows false 11 [(rM m0 m1 m2 m3 m4 m5 m6 (AVal.fsl nb 2 rs none) m8 m9 m10)]] (AExit.exit 0) (mkR 71 [(1, AVal.ptr 0 11 0 0), (3, iI i)]) [AObj.rows false 11 [(rM m0 m1 m2 m3 m4 m5 m6 (AVal.fsl nb 2 rs none) m8 m9 m10)]]) :
    FOk Try.prog 7 ([AVal.agg (rM m0 m1 m2 m3 m4 m5 m6 (AVal.fsl nb 2 rs none) m8 m9 m10)]) ([]) (AVal.bool false) ([]) :=
  (evalF_ok followed Try.func7 (by kernel_rfl) (show evalF Try.prog Try.f7 ([AVal.agg (rM m0 m1 m2 m3 m4 m5 m6 (AVal.fsl nb 2 rs none) m8 m9 m10)]) ([]) ([Dec.compact (keepM 71 [1, 3]) [0], Dec.loop (AExit.exit 0) (rgMl i) [AObj.rows false 11 [rM m0 m1 m2 m3 m4 m5 m6 (AVal.fsl nb 2 rs none) m8 m9 m10]], Dec.use [] [AVal.str m10] [] (AVal.bool b) [], Dec.br false, Dec.use [] [AVal.agg (rM m0 m1 m2 m3 m4 m5 m6 (AVal.fsl nb 2 rs none) m8 m9 m10)] [] (AVal.tuple [AVal.str s, iI e]) [], Dec.use [] [AVal.agg (rM m0 m1 m2 m3 m4 m5 m6 (AVal.fsl nb 2 rs none) m8 m9 m10)] [] (AVal.tuple [AVal.str s, iI e]) [], Dec.br true]) = .ok (FRes.mk (AVal.bool false) ([AObj.rows false 11 [(rM m0 m1 m2 m3 m4 m5 m6 (AVal.fsl nb 2 rs none) m8 m9 m10)]]) (((!ByteArray.toList s == ByteArray.toList s) = true) :: ((Owed.use (owed Try.prog 0) 20 [] [AVal.agg (rM m0 m1 m2 m3 m4 m5 m6 (AVal.fsl nb 2 rs none) m8 m9 m10)] [AObj.rows false 11 [(rM m0 m1 m2 m3 m4 m5 m6 (AVal.fsl nb 2 rs none) m8 m9 m10)]] [AVal.agg (rM m0 m1 m2 m3 m4 m5 m6 (AVal.fsl nb 2 rs none) m8 m9 m10)] [] (AVal.tuple [AVal.str s, iI e]) []) :: (tr 2 ++ ((Owed.use (owed Try.prog 0) 19 [] [AVal.agg (rM m0 m1 m2 m3 m4 m5 m6 (AVal.fsl nb 2 rs none) m8 m9 m10)] [AObj.rows false 11 [(rM m0 m1 m2 m3 m4 m5 m6 (AVal.fsl nb 2 rs none) m8 m9 m10)]] [AVal.agg (rM m0 m1 m2 m3 m4 m5 m6 (AVal.fsl nb 2 rs none) m8 m9 m10)] [] (AVal.tuple [AVal.str s, iI e]) []) :: (tr 2 ++ (((!b) = false) :: ((Owed.use (owed Try.prog 0) 13 [] [AVal.str m10] [AObj.rows false 11 [(rM m0 m1 m2 m3 m4 m5 m6 (AVal.fsl nb 2 rs none) m8 m9 m10)]] [AVal.str m10] [] (AVal.bool b) []) :: (tr 2 ++ ((Owed.loop (owed Try.prog 0) (loopNo Try.f7 0) (mkR 71 [(1, AVal.ptr 0 11 0 0), (3, iI 0)]) [AObj.rows false 11 [(rM m0 m1 m2 m3 m4 m5 m6 (AVal.fsl nb 2 rs none) m8 m9 m10)]] (AExit.exit 0) (mkR 71 [(1, AVal.ptr 0 11 0 0), (3, iI i)]) [AObj.rows false 11 [(rM m0 m1 m2 m3 m4 m5 m6 (AVal.fsl nb 2 rs none) m8 m9 m10)]]) :: [])))))))))) by kernel_rfl) (allP_of ⟨h1, ⟨⟨h2, rfl, rfl, rfl⟩, (trC 2 ⟨⟨h3, rfl, rfl, rfl⟩, (trC 2 ⟨h4, ⟨⟨h5, rfl, rfl, rfl⟩, (trC 2 ⟨h6, trivial⟩)⟩⟩)⟩)⟩⟩)).move ([]) (by kernel_rfl) (by kernel_rfl) (by kernel_rfl)

theorem cmsg_3 (m0 m1 m2 m3 m4 m5 m6 m8 : Int) (m9 : Bool) (m10 : ByteArray) (nb mb : Bool) (rs : List (List AVal)) (i : Int) (b : Bool) (s : ByteArray) (e : Int)
    (h1 : (e != e) = true)
    (h2 : (!ByteArray.toList s == ByteArray.toList s) = false)
    (h3 : FOk Try.prog 20 [AVal.agg (rM m0 m1 m2 m3 m4 m5 m6 (AVal.fsl nb 2 rs none) m8 m9 m10)] [] (AVal.tuple [AVal.str s, iI e]) [])
    (h4 : FOk Try.prog 19 [AVal.agg (rM m0 m1 m2 m3 m4 m5 m6 (AVal.fsl nb 2 rs none) m8 m9 m10)] [] (AVal.tuple [AVal.str s, iI e]) [])
    (h5 : (!b) = false)
    (h6 : FOk Try.prog 13 [AVal.str m10] [] (AVal.bool b) [])
    (h7 : TripN Try.prog 0 (Code.loop (loopNo Try.f7 0)) (mkR 71 [(1, AVal.ptr 0 11 0 0), (3, iI 0)]) [AObj.rows false 11 [(rM m0 m1 m2 m3 m4 m5 m6 (AVal.fsl nb 2 rs none) m8 m9 m10)]] (AExit.exit 0) (mkR 71 [(1, AVal.ptr 0 11 0 0), (3, iI i)]) [AObj.rows false 11 [(rM m0 m1 m2 m3 m4 m5 m6 (AVal.fsl nb 2 rs none) m8 m9 m10)]]) :
    FOk Try.prog 7 ([AVal.agg (rM m0 m1 m2 m3 m4 m5 m6 (AVal.fsl nb 2 rs none) m8 m9 m10)]) ([]) (AVal.bool false) ([]) :=
  (evalF_ok followed Try.func7 (by kernel_rfl) (show evalF Try.prog Try.f7 ([AVal.agg (rM m0 m1 m2 m3 m4 m5 m6 (AVal.fsl nb 2 rs none) m8 m9 m10)]) ([]) ([Dec.compact (keepM 71 [1, 3]) [0], Dec.loop (AExit.exit 0) (rgMl i) [AObj.rows false 11 [rM m0 m1 m2 m3 m4 m5 m6 (AVal.fsl nb 2 rs none) m8 m9 m10]], Dec.use [] [AVal.str m10] [] (AVal.bool b) [], Dec.br false, Dec.use [] [AVal.agg (rM m0 m1 m2 m3 m4 m5 m6 (AVal.fsl nb 2 rs none) m8 m9 m10)] [] (AVal.tuple [AVal.str s, iI e]) [], Dec.use [] [AVal.agg (rM m0 m1 m2 m3 m4 m5 m6 (AVal.fsl nb 2 rs none) m8 m9 m10)] [] (AVal.tuple [AVal.str s, iI e]) [], Dec.br false, Dec.br true]) = .ok (FRes.mk (AVal.bool false) ([AObj.rows false 11 [(rM m0 m1 m2 m3 m4 m5 m6 (AVal.fsl nb 2 rs none) m8 m9 m10)]]) (((e != e) = true) :: (((!ByteArray.toList s == ByteArray.toList s) = false) :: ((Owed.use (owed Try.prog 0) 20 [] [AVal.agg (rM m0 m1 m2 m3 m4 m5 m6 (AVal.fsl nb 2 rs none) m8 m9 m10)] [AObj.rows false 11 [(rM m0 m1 m2 m3 m4 m5 m6 (AVal.fsl nb 2 rs none) m8 m9 m10)]] [AVal.agg (rM m0 m1 m2 m3 m4 m5 m6 (AVal.fsl nb 2 rs none) m8 m9 m10)] [] (AVal.tuple [AVal.str s, iI e]) []) :: (tr 2 ++ ((Owed.use (owed Try.prog 0) 19 [] [AVal.agg (rM m0 m1 m2 m3 m4 m5 m6 (AVal.fsl nb 2 rs none) m8 m9 m10)] [AObj.rows false 11 [(rM m0 m1 m2 m3 m4 m5 m6 (AVal.fsl nb 2 rs none) m8 m9 m10)]] [AVal.agg (rM m0 m1 m2 m3 m4 m5 m6 (AVal.fsl nb 2 rs none) m8 m9 m10)] [] (AVal.tuple [AVal.str s, iI e]) []) :: (tr 2 ++ (((!b) = false) :: ((Owed.use (owed Try.prog 0) 13 [] [AVal.str m10] [AObj.rows false 11 [(rM m0 m1 m2 m3 m4 m5 m6 (AVal.fsl nb 2 rs none) m8 m9 m10)]] [AVal.str m10] [] (AVal.bool b) []) :: (tr 2 ++ ((Owed.loop (owed Try.prog 0) (loopNo Try.f7 0) (mkR 71 [(1, AVal.ptr 0 11 0 0), (3, iI 0)]) [AObj.rows false 11 [(rM m0 m1 m2 m3 m4 m5 m6 (AVal.fsl nb 2 rs none) m8 m9 m10)]] (AExit.exit 0) (mkR 71 [(1, AVal.ptr 0 11 0 0), (3, iI i)]) [AObj.rows false 11 [(rM m0 m1 m2 m3 m4 m5 m6 (AVal.fsl nb 2 rs none) m8 m9 m10)]]) :: []))))))))))) by kernel_rfl) (allP_of ⟨h1, ⟨h2, ⟨⟨h3, rfl, rfl, rfl⟩, (trC 2 ⟨⟨h4, rfl, rfl, rfl⟩, (trC 2 ⟨h5, ⟨⟨h6, rfl, rfl, rfl⟩, (trC 2 ⟨h7, trivial⟩)⟩⟩)⟩)⟩⟩⟩)).move ([]) (by kernel_rfl) (by kernel_rfl) (by kernel_rfl)

theorem cmsg_4 (m0 m1 m2 m3 m4 m5 m6 m8 : Int) (m9 : Bool) (m10 : ByteArray) (nb mb : Bool) (rs : List (List AVal)) (i : Int) (b : Bool) (s : ByteArray) (e : Int)
    (h1 : FOk Try.prog 14 [] [] (AVal.bool true) [])
    (h2 : (e != 0) = true)
    (h3 : (e != e) = false)
    (h4 : (!ByteArray.toList s == ByteArray.toList s) = false)
    (h5 : FOk Try.prog 20 [AVal.agg (rM m0 m1 m2 m3 m4 m5 m6 (AVal.fsl nb 2 rs none) m8 m9 m10)] [] (AVal.tuple [AVal.str s, iI e]) [])
    (h6 : FOk Try.prog 19 [AVal.agg (rM m0 m1 m2 m3 m4 m5 m6 (AVal.fsl nb 2 rs none) m8 m9 m10)] [] (AVal.tuple [AVal.str s, iI e]) [])
    (h7 : (!b) = false)
    (h8 : FOk Try.prog 13 [AVal.str m10] [] (AVal.bool b) [])
    (h9 : TripN Try.prog 0 (Code.loop (loopNo Try.f7 0)) (mkR 71 [(1, AVal.ptr 0 11 0 0), (3, iI 0)]) [AObj.rows false 11 [(rM m0 m1 m2 m3 m4 m5 m6 (AVal.fsl nb 2 rs none) m8 m9 m10)]] (AExit.exit 0) (mkR 71 [(1, AVal.ptr 0 11 0 0), (3, iI i)]) [AObj.rows false 11 [(rM m0 m1 m2 m3 m4 m5 m6 (AVal.fsl nb 2 rs none) m8 m9 m10)]]) :
    FOk Try.prog 7 ([AVal.agg (rM m0 m1 m2 m3 m4 m5 m6 (AVal.fsl nb 2 rs none) m8 m9 m10)]) ([]) (AVal.bool true) ([]) :=
  (evalF_ok followed Try.func7 (by kernel_rfl) (show evalF Try.prog Try.f7 ([AVal.agg (rM m0 m1 m2 m3 m4 m5 m6 (AVal.fsl nb 2 rs none) m8 m9 m10)]) ([]) ([Dec.compact (keepM 71 [1, 3]) [0], Dec.loop (AExit.exit 0) (rgMl i) [AObj.rows false 11 [rM m0 m1 m2 m3 m4 m5 m6 (AVal.fsl nb 2 rs none) m8 m9 m10]], Dec.use [] [AVal.str m10] [] (AVal.bool b) [], Dec.br false, Dec.use [] [AVal.agg (rM m0 m1 m2 m3 m4 m5 m6 (AVal.fsl nb 2 rs none) m8 m9 m10)] [] (AVal.tuple [AVal.str s, iI e]) [], Dec.use [] [AVal.agg (rM m0 m1 m2 m3 m4 m5 m6 (AVal.fsl nb 2 rs none) m8 m9 m10)] [] (AVal.tuple [AVal.str s, iI e]) [], Dec.br false, Dec.br false, Dec.br true, Dec.use [] [] [] (AVal.bool true) []]) = .ok (FRes.mk (AVal.bool true) ([AObj.rows false 11 [(rM m0 m1 m2 m3 m4 m5 m6 (AVal.fsl nb 2 rs none) m8 m9 m10)]]) ((Owed.use (owed Try.prog 0) 14 [] [] [AObj.rows false 11 [(rM m0 m1 m2 m3 m4 m5 m6 (AVal.fsl nb 2 rs none) m8 m9 m10)]] [] [] (AVal.bool true) []) :: (((e != 0) = true) :: (((e != e) = false) :: (((!ByteArray.toList s == ByteArray.toList s) = false) :: ((Owed.use (owed Try.prog 0) 20 [] [AVal.agg (rM m0 m1 m2 m3 m4 m5 m6 (AVal.fsl nb 2 rs none) m8 m9 m10)] [AObj.rows false 11 [(rM m0 m1 m2 m3 m4 m5 m6 (AVal.fsl nb 2 rs none) m8 m9 m10)]] [AVal.agg (rM m0 m1 m2 m3 m4 m5 m6 (AVal.fsl nb 2 rs none) m8 m9 m10)] [] (AVal.tuple [AVal.str s, iI e]) []) :: (tr 2 ++ ((Owed.use (owed Try.prog 0) 19 [] [AVal.agg (rM m0 m1 m2 m3 m4 m5 m6 (AVal.fsl nb 2 rs none) m8 m9 m10)] [AObj.rows false 11 [(rM m0 m1 m2 m3 m4 m5 m6 (AVal.fsl nb 2 rs none) m8 m9 m10)]] [AVal.agg (rM m0 m1 m2 m3 m4 m5 m6 (AVal.fsl nb 2 rs none) m8 m9 m10)] [] (AVal.tuple [AVal.str s, iI e]) []) :: (tr 2 ++ (((!b) = false) :: ((Owed.use (owed Try.prog 0) 13 [] [AVal.str m10] [AObj.rows false 11 [(rM m0 m1 m2 m3 m4 m5 m6 (AVal.fsl nb 2 rs none) m8 m9 m10)]] [AVal.str m10] [] (AVal.bool b) []) :: (tr 2 ++ ((Owed.loop (owed Try.prog 0) (loopNo Try.f7 0) (mkR 71 [(1, AVal.ptr 0 11 0 0), (3, iI 0)]) [AObj.rows false 11 [(rM m0 m1 m2 m3 m4 m5 m6 (AVal.fsl nb 2 rs none) m8 m9 m10)]] (AExit.exit 0) (mkR 71 [(1, AVal.ptr 0 11 0 0), (3, iI i)]) [AObj.rows false 11 [(rM m0 m1 m2 m3 m4 m5 m6 (AVal.fsl nb 2 rs none) m8 m9 m10)]]) :: []))))))))))))) by kernel_rfl) (allP_of ⟨⟨h1, rfl, rfl, rfl⟩, ⟨h2, ⟨h3, ⟨h4, ⟨⟨h5, rfl, rfl, rfl⟩, (trC 2 ⟨⟨h6, rfl, rfl, rfl⟩, (trC 2 ⟨h7, ⟨⟨h8, rfl, rfl, rfl⟩, (trC 2 ⟨h9, trivial⟩)⟩⟩)⟩)⟩⟩⟩⟩⟩)).move ([]) (by kernel_rfl) (by kernel_rfl) (by kernel_rfl)

theorem cmsg_5 (m0 m1 m2 m3 m4 m5 m6 m8 : Int) (m9 : Bool) (m10 : ByteArray) (nb mb : Bool) (rs : List (List AVal)) (i : Int) (b : Bool) (s : ByteArray) (e : Int)
    (h1 : FOk Try.prog 14 [] [] (AVal.bool true) [])
    (h2 : FOk Try.prog 22 [AVal.agg (rM m0 m1 m2 m3 m4 m5 m6 (AVal.fsl nb 2 rs none) m8 m9 m10), AVal.agg (rM m0 m1 m2 m3 m4 m5 m6 (AVal.fsl mb 2 rs none) m8 m9 m10)] [] (AVal.bool true) [])
    (h3 : FOk Try.prog 21 [AVal.str s] [] (AVal.tuple [AVal.agg (rM m0 m1 m2 m3 m4 m5 m6 (AVal.fsl mb 2 rs none) m8 m9 m10), iI 0]) [])
    (h4 : (e != 0) = false)
    (h5 : (e != e) = false)
    (h6 : (!ByteArray.toList s == ByteArray.toList s) = false)
    (h7 : FOk Try.prog 20 [AVal.agg (rM m0 m1 m2 m3 m4 m5 m6 (AVal.fsl nb 2 rs none) m8 m9 m10)] [] (AVal.tuple [AVal.str s, iI e]) [])
    (h8 : FOk Try.prog 19 [AVal.agg (rM m0 m1 m2 m3 m4 m5 m6 (AVal.fsl nb 2 rs none) m8 m9 m10)] [] (AVal.tuple [AVal.str s, iI e]) [])
    (h9 : (!b) = false)
    (h10 : FOk Try.prog 13 [AVal.str m10] [] (AVal.bool b) [])
    (h11 : TripN Try.prog 0 (Code.loop (loopNo Try.f7 0)) (mkR 71 [(1, AVal.ptr 0 11 0 0), (3, iI 0)]) [AObj.rows false 11 [(rM m0 m1 m2 m3 m4 m5 m6 (AVal.fsl nb 2 rs none) m8 m9 m10)]] (AExit.exit 0) (mkR 71 [(1, AVal.ptr 0 11 0 0), (3, iI i)]) [AObj.rows false 11 [(rM m0 m1 m2 m3 m4 m5 m6 (AVal.fsl nb 2 rs none) m8 m9 m10)]]) :
    FOk Try.prog 7 ([AVal.agg (rM m0 m1 m2 m3 m4 m5 m6 (AVal.fsl nb 2 rs none) m8 m9 m10)]) ([]) (AVal.bool true) ([]) :=
  (evalF_ok followed Try.func7 (by kernel_rfl) (show evalF Try.prog Try.f7 ([AVal.agg (rM m0 m1 m2 m3 m4 m5 m6 (AVal.fsl nb 2 rs none) m8 m9 m10)]) ([]) ([Dec.compact (keepM 71 [1, 3]) [0], Dec.loop (AExit.exit 0) (rgMl i) [AObj.rows false 11 [rM m0 m1 m2 m3 m4 m5 m6 (AVal.fsl nb 2 rs none) m8 m9 m10]], Dec.use [] [AVal.str m10] [] (AVal.bool b) [], Dec.br false, Dec.use [] [AVal.agg (rM m0 m1 m2 m3 m4 m5 m6 (AVal.fsl nb 2 rs none) m8 m9 m10)] [] (AVal.tuple [AVal.str s, iI e]) [], Dec.use [] [AVal.agg (rM m0 m1 m2 m3 m4 m5 m6 (AVal.fsl nb 2 rs none) m8 m9 m10)] [] (AVal.tuple [AVal.str s, iI e]) [], Dec.br false, Dec.br false, Dec.br false, Dec.use [] [AVal.str s] [] (AVal.tuple [AVal.agg (rM m0 m1 m2 m3 m4 m5 m6 (AVal.fsl mb 2 rs none) m8 m9 m10), iI 0]) [], Dec.use [] [AVal.agg (rM m0 m1 m2 m3 m4 m5 m6 (AVal.fsl nb 2 rs none) m8 m9 m10), AVal.agg (rM m0 m1 m2 m3 m4 m5 m6 (AVal.fsl mb 2 rs none) m8 m9 m10)] [] (AVal.bool true) [], Dec.br true, Dec.br true, Dec.use [] [] [] (AVal.bool true) []]) = .ok (FRes.mk (AVal.bool true) ([AObj.rows false 11 [(rM m0 m1 m2 m3 m4 m5 m6 (AVal.fsl nb 2 rs none) m8 m9 m10)], AObj.rows false 11 [(rM m0 m1 m2 m3 m4 m5 m6 (AVal.fsl mb 2 rs none) m8 m9 m10)]]) ((Owed.use (owed Try.prog 0) 14 [] [] [AObj.rows false 11 [(rM m0 m1 m2 m3 m4 m5 m6 (AVal.fsl nb 2 rs none) m8 m9 m10)], AObj.rows false 11 [(rM m0 m1 m2 m3 m4 m5 m6 (AVal.fsl mb 2 rs none) m8 m9 m10)]] [] [] (AVal.bool true) []) :: (tr 2 ++ ((Owed.use (owed Try.prog 0) 22 [] [AVal.agg (rM m0 m1 m2 m3 m4 m5 m6 (AVal.fsl nb 2 rs none) m8 m9 m10), AVal.agg (rM m0 m1 m2 m3 m4 m5 m6 (AVal.fsl mb 2 rs none) m8 m9 m10)] [AObj.rows false 11 [(rM m0 m1 m2 m3 m4 m5 m6 (AVal.fsl nb 2 rs none) m8 m9 m10)], AObj.rows false 11 [(rM m0 m1 m2 m3 m4 m5 m6 (AVal.fsl mb 2 rs none) m8 m9 m10)]] [AVal.agg (rM m0 m1 m2 m3 m4 m5 m6 (AVal.fsl nb 2 rs none) m8 m9 m10), AVal.agg (rM m0 m1 m2 m3 m4 m5 m6 (AVal.fsl mb 2 rs none) m8 m9 m10)] [] (AVal.bool true) []) :: (tr 6 ++ ((Owed.use (owed Try.prog 0) 21 [] [AVal.str s] [AObj.rows false 11 [(rM m0 m1 m2 m3 m4 m5 m6 (AVal.fsl nb 2 rs none) m8 m9 m10)]] [AVal.str s] [] (AVal.tuple [AVal.agg (rM m0 m1 m2 m3 m4 m5 m6 (AVal.fsl mb 2 rs none) m8 m9 m10), iI 0]) []) :: (((e != 0) = false) :: (((e != e) = false) :: (((!ByteArray.toList s == ByteArray.toList s) = false) :: ((Owed.use (owed Try.prog 0) 20 [] [AVal.agg (rM m0 m1 m2 m3 m4 m5 m6 (AVal.fsl nb 2 rs none) m8 m9 m10)] [AObj.rows false 11 [(rM m0 m1 m2 m3 m4 m5 m6 (AVal.fsl nb 2 rs none) m8 m9 m10)]] [AVal.agg (rM m0 m1 m2 m3 m4 m5 m6 (AVal.fsl nb 2 rs none) m8 m9 m10)] [] (AVal.tuple [AVal.str s, iI e]) []) :: (tr 2 ++ ((Owed.use (owed Try.prog 0) 19 [] [AVal.agg (rM m0 m1 m2 m3 m4 m5 m6 (AVal.fsl nb 2 rs none) m8 m9 m10)] [AObj.rows false 11 [(rM m0 m1 m2 m3 m4 m5 m6 (AVal.fsl nb 2 rs none) m8 m9 m10)]] [AVal.agg (rM m0 m1 m2 m3 m4 m5 m6 (AVal.fsl nb 2 rs none) m8 m9 m10)] [] (AVal.tuple [AVal.str s, iI e]) []) :: (tr 2 ++ (((!b) = false) :: ((Owed.use (owed Try.prog 0) 13 [] [AVal.str m10] [AObj.rows false 11 [(rM m0 m1 m2 m3 m4 m5 m6 (AVal.fsl nb 2 rs none) m8 m9 m10)]] [AVal.str m10] [] (AVal.bool b) []) :: (tr 2 ++ ((Owed.loop (owed Try.prog 0) (loopNo Try.f7 0) (mkR 71 [(1, AVal.ptr 0 11 0 0), (3, iI 0)]) [AObj.rows false 11 [(rM m0 m1 m2 m3 m4 m5 m6 (AVal.fsl nb 2 rs none) m8 m9 m10)]] (AExit.exit 0) (mkR 71 [(1, AVal.ptr 0 11 0 0), (3, iI i)]) [AObj.rows false 11 [(rM m0 m1 m2 m3 m4 m5 m6 (AVal.fsl nb 2 rs none) m8 m9 m10)]]) :: []))))))))))))))))) by kernel_rfl) (allP_of ⟨⟨h1, rfl, rfl, rfl⟩, (trC 2 ⟨⟨h2, rfl, rfl, rfl⟩, (trC 6 ⟨⟨h3, rfl, rfl, rfl⟩, ⟨h4, ⟨h5, ⟨h6, ⟨⟨h7, rfl, rfl, rfl⟩, (trC 2 ⟨⟨h8, rfl, rfl, rfl⟩, (trC 2 ⟨h9, ⟨⟨h10, rfl, rfl, rfl⟩, (trC 2 ⟨h11, trivial⟩)⟩⟩)⟩)⟩⟩⟩⟩⟩)⟩)⟩)).move ([]) (by kernel_rfl) (by kernel_rfl) (by kernel_rfl)

def cmsg_T (m0 m1 m2 m3 m4 m5 m6 m8 : Int) (m9 : Bool) (m10 : ByteArray) (nb mb : Bool) (rs : List (List AVal)) (i : Int) (b : Bool) (s : ByteArray) (e : Int) (Q : AVal → AState → Prop) : Prop := (TripN Try.prog 0 (Code.loop (loopNo Try.f7 0)) (mkR 71 [(1, AVal.ptr 0 11 0 0), (3, iI 0)]) [AObj.rows false 11 [(rM m0 m1 m2 m3 m4 m5 m6 (AVal.fsl nb 2 rs none) m8 m9 m10)]] (AExit.exit 0) (mkR 71 [(1, AVal.ptr 0 11 0 0), (3, iI i)]) [AObj.rows false 11 [(rM m0 m1 m2 m3 m4 m5 m6 (AVal.fsl nb 2 rs none) m8 m9 m10)]]) ∧ (FOk Try.prog 13 [AVal.str m10] [] (AVal.bool b) []) ∧ (((!b) = true) → (FOk Try.prog 14 [] [] (AVal.bool true) []) ∧ Q (AVal.bool true) ([])) ∧ (((!b) = false) → (FOk Try.prog 19 [AVal.agg (rM m0 m1 m2 m3 m4 m5 m6 (AVal.fsl nb 2 rs none) m8 m9 m10)] [] (AVal.tuple [AVal.str s, iI e]) []) ∧ (FOk Try.prog 20 [AVal.agg (rM m0 m1 m2 m3 m4 m5 m6 (AVal.fsl nb 2 rs none) m8 m9 m10)] [] (AVal.tuple [AVal.str s, iI e]) []) ∧ (((!ByteArray.toList s == ByteArray.toList s) = true) → Q (AVal.bool false) ([])) ∧ (((!ByteArray.toList s == ByteArray.toList s) = false) → (((e != e) = true) → Q (AVal.bool false) ([])) ∧ (((e != e) = false) → (((e != 0) = true) → (FOk Try.prog 14 [] [] (AVal.bool true) []) ∧ Q (AVal.bool true) ([])) ∧ (((e != 0) = false) → (FOk Try.prog 21 [AVal.str s] [] (AVal.tuple [AVal.agg (rM m0 m1 m2 m3 m4 m5 m6 (AVal.fsl mb 2 rs none) m8 m9 m10), iI 0]) []) ∧ (FOk Try.prog 22 [AVal.agg (rM m0 m1 m2 m3 m4 m5 m6 (AVal.fsl nb 2 rs none) m8 m9 m10), AVal.agg (rM m0 m1 m2 m3 m4 m5 m6 (AVal.fsl mb 2 rs none) m8 m9 m10)] [] (AVal.bool true) []) ∧ (FOk Try.prog 14 [] [] (AVal.bool true) []) ∧ Q (AVal.bool true) ([])))))
theorem cmsg_wp (m0 m1 m2 m3 m4 m5 m6 m8 : Int) (m9 : Bool) (m10 : ByteArray) (nb mb : Bool) (rs : List (List AVal)) (i : Int) (b : Bool) (s : ByteArray) (e : Int) {Q : AVal → AState → Prop} (h : cmsg_T m0 m1 m2 m3 m4 m5 m6 m8 m9 m10 nb mb rs i b s e Q) : ∃ r σ', FOk Try.prog 7 ([AVal.agg (rM m0 m1 m2 m3 m4 m5 m6 (AVal.fsl nb 2 rs none) m8 m9 m10)]) ([]) r σ' ∧ Q r σ' :=
  brE (fun (c0 : (!b) = true) => ⟨_, _, cmsg_1 m0 m1 m2 m3 m4 m5 m6 m8 m9 m10 nb mb rs i b s e ((h.2.2.1 c0).1) (c0) (h.2.1) (h.1), (h.2.2.1 c0).2⟩) (fun (c0 : (!b) = false) => brE (fun (c1 : (!ByteArray.toList s == ByteArray.toList s) = true) => ⟨_, _, cmsg_2 m0 m1 m2 m3 m4 m5 m6 m8 m9 m10 nb mb rs i b s e (c1) ((h.2.2.2 c0).2.1) ((h.2.2.2 c0).1) (c0) (h.2.1) (h.1), ((h.2.2.2 c0).2.2.1 c1)⟩) (fun (c1 : (!ByteArray.toList s == ByteArray.toList s) = false) => brE (fun (c2 : (e != e) = true) => ⟨_, _, cmsg_3 m0 m1 m2 m3 m4 m5 m6 m8 m9 m10 nb mb rs i b s e (c2) (c1) ((h.2.2.2 c0).2.1) ((h.2.2.2 c0).1) (c0) (h.2.1) (h.1), (((h.2.2.2 c0).2.2.2 c1).1 c2)⟩) (fun (c2 : (e != e) = false) => brE (fun (c3 : (e != 0) = true) => ⟨_, _, cmsg_4 m0 m1 m2 m3 m4 m5 m6 m8 m9 m10 nb mb rs i b s e (((((h.2.2.2 c0).2.2.2 c1).2 c2).1 c3).1) (c3) (c2) (c1) ((h.2.2.2 c0).2.1) ((h.2.2.2 c0).1) (c0) (h.2.1) (h.1), ((((h.2.2.2 c0).2.2.2 c1).2 c2).1 c3).2⟩) (fun (c3 : (e != 0) = false) => ⟨_, _, cmsg_5 m0 m1 m2 m3 m4 m5 m6 m8 m9 m10 nb mb rs i b s e (((((h.2.2.2 c0).2.2.2 c1).2 c2).2 c3).2.2.1) (((((h.2.2.2 c0).2.2.2 c1).2 c2).2 c3).2.1) (((((h.2.2.2 c0).2.2.2 c1).2 c2).2 c3).1) (c3) (c2) (c1) ((h.2.2.2 c0).2.1) ((h.2.2.2 c0).1) (c0) (h.2.1) (h.1), ((((h.2.2.2 c0).2.2.2 c1).2 c2).2 c3).2.2.2⟩))))


end Go.L12
end

section
set_option linter.unusedVariables false
set_option linter.unusedSimpArgs false
set_option maxRecDepth 100000
namespace Go.L12
open Go Go.Abs Go.Proofs
def argM (rs : List (List AVal)) : Prop := ∀ r ∈ rs, ∃ n d, r = [.int .i64 n, .str d] ∧ -9223372036854775808 ≤ n ∧ n < 9223372036854775808
theorem argM_get {rs : List (List AVal)} (h : argM rs) {q : Nat} (hq : q < rs.length) : ∃ n d, rs.getD q [] = [.int .i64 n, .str d] ∧ -9223372036854775808 ≤ n ∧ n < 9223372036854775808 := by
  have e : rs.getD q [] = rs[q] := by rw [List.getD_eq_getElem?_getD, List.getElem?_eq_getElem hq]; rfl
  rw [e]
  exact h _ (List.getElem_mem hq)
theorem argM_row {rs : List (List AVal)} (h : argM rs) : ∀ q, q < rs.length → rowK 111 rs q := fun q hq => by
  obtain ⟨n, d, e, h1, h2⟩ := argM_get h hq
  refine ⟨hq, ⟨d, by rw [e]; rfl⟩, ?_⟩
  show oI _
  rw [e]
  exact ⟨n, rfl, h1, h2⟩
theorem argM_isL {rs : List (List AVal)} (h : argM rs) : isL 111 rs := fun r hr => by
  obtain ⟨n, d, e, h1, h2⟩ := h r hr
  exact ⟨_, _, e, ⟨n, rfl⟩, ⟨d, rfl⟩⟩
theorem ml_rounds (m0 m1 m2 m3 m4 m5 m6 m8 : Int) (m9 : Bool) (m10 : ByteArray) (nb : Bool) (rs : List (List AVal)) (hr : argM rs) : ∀ (d i : Nat), i + d = 21 →
    LoopRun Try.prog 0 (loopNo Try.f7 0) (rgMl (i : Nat)) [.rows false 11 [rM m0 m1 m2 m3 m4 m5 m6 (.fsl nb 2 rs none) m8 m9 m10]] .ret rgMr [] ∨
    ∃ i' : Nat, rs.length ≤ 21 ∧ LoopRun Try.prog 0 (loopNo Try.f7 0) (rgMl (i : Nat)) [.rows false 11 [rM m0 m1 m2 m3 m4 m5 m6 (.fsl nb 2 rs none) m8 m9 m10]] (.exit 0) (rgMl (i' : Nat)) [.rows false 11 [rM m0 m1 m2 m3 m4 m5 m6 (.fsl nb 2 rs none) m8 m9 m10]] := by
  intro d
  induction d with
  | zero =>
    intro i hi
    by_cases hl : i < rs.length
    · obtain ⟨n, x, e, _, _⟩ := argM_get hr hl
      refine .inl (.done (TripN.wp (ml_wp m0 m1 m2 m3 m4 m5 m6 m8 m9 m10 nb rs (i : Nat) (litB x) ?_)) (by simp))
      unfold ml_T
      rw [Int.toNat_natCast, e]
      exact ⟨fun _ => ⟨decide_eq_true (by omega), rfl, decide_eq_true (by omega), lightP x, fun _ => ⟨awakeP, rfl, rfl, rfl⟩, fun _ => ⟨fun _ => ⟨awakeP, rfl, rfl, rfl⟩, fun c => absurd (of_decide_eq_false c) (by omega)⟩⟩, fun c => absurd (of_decide_eq_false c) (by omega)⟩
    · refine .inr ⟨i, by omega, .done (TripN.wp (ml_wp m0 m1 m2 m3 m4 m5 m6 m8 m9 m10 nb rs (i : Nat) true ?_)) (by simp)⟩
      unfold ml_T
      exact ⟨fun c => absurd (of_decide_eq_true c) (by omega), fun _ => ⟨rfl, rfl, rfl⟩⟩
  | succ d ih =>
    intro i hi
    by_cases hl : i < rs.length
    · obtain ⟨n, x, e, _, _⟩ := argM_get hr hl
      cases hx : litB x with
      | false =>
        refine .inl (.done (TripN.wp (ml_wp m0 m1 m2 m3 m4 m5 m6 m8 m9 m10 nb rs (i : Nat) (litB x) ?_)) (by simp))
        unfold ml_T
        rw [Int.toNat_natCast, e]
        exact ⟨fun _ => ⟨decide_eq_true (by omega), rfl, decide_eq_true (by omega), lightP x, fun _ => ⟨awakeP, rfl, rfl, rfl⟩, fun c => by rw [hx] at c; cases c⟩, fun c => absurd (of_decide_eq_false c) (by omega)⟩
      | true =>
        have w1 : IntKind.wrap .i64 ((i : Int) + 1) = ((i + 1 : Nat) : Int) := by rw [wrapS (by omega) (by omega)]; omega
        have step : TripN Try.prog 0 (loopNo Try.f7 0) (rgMl (i : Nat)) [.rows false 11 [rM m0 m1 m2 m3 m4 m5 m6 (.fsl nb 2 rs none) m8 m9 m10]] .normal (rgMl ((i + 1 : Nat) : Int)) [.rows false 11 [rM m0 m1 m2 m3 m4 m5 m6 (.fsl nb 2 rs none) m8 m9 m10]] := by
          refine TripN.wp (ml_wp m0 m1 m2 m3 m4 m5 m6 m8 m9 m10 nb rs (i : Nat) (litB x) ?_)
          unfold ml_T
          rw [Int.toNat_natCast, e, w1]
          exact ⟨fun _ => ⟨decide_eq_true (by omega), rfl, decide_eq_true (by omega), lightP x, fun c => (by rw [hx] at c; cases c), fun _ => ⟨fun c => absurd (of_decide_eq_true c) (by omega), fun _ => ⟨rfl, rfl, rfl⟩⟩⟩, fun c => absurd (of_decide_eq_false c) (by omega)⟩
        rcases ih (i + 1) (by omega) with h | ⟨i', h1, h⟩
        · exact .inl (.more step h)
        · exact .inr ⟨i', h1, .more step h⟩
    · refine .inr ⟨i, by omega, .done (TripN.wp (ml_wp m0 m1 m2 m3 m4 m5 m6 m8 m9 m10 nb rs (i : Nat) true ?_)) (by simp)⟩
      unfold ml_T
      exact ⟨fun c => absurd (of_decide_eq_true c) (by omega), fun _ => ⟨rfl, rfl, rfl⟩⟩
theorem putM_any (m0 m1 m2 m3 m4 m5 m6 m8 : Int) (m9 : Bool) (m10 : ByteArray) (nb : Bool) (rs : List (List AVal)) (hb : bdM m0 m1 m2 m3 m4 m5 m6 m8) (hr : argM rs) (hl : rs.length ≤ 21) : ∃ (s : ByteArray) (e : Int),
    FOk Try.prog 19 [.agg (rM m0 m1 m2 m3 m4 m5 m6 (.fsl nb 2 rs none) m8 m9 m10)] [] (.tuple [.str s, .int .i64 e]) [] ∧ FOk Try.prog 20 [.agg (rM m0 m1 m2 m3 m4 m5 m6 (.fsl nb 2 rs none) m8 m9 m10)] [] (.tuple [.str s, .int .i64 e]) [] ∧
    ((e = 0 ∧ Is 77 TM s (vsM m0 m1 m2 m3 m4 m5 m6 m8 m9 m10 (listV rs))) ∨ e = 1) := by
  have hk : kM m0 m1 m2 m3 m4 m5 m6 m8 rs := ⟨hb, argM_row hr, by omega⟩
  cases h : putAll TM (vsM m0 m1 m2 m3 m4 m5 m6 m8 m9 m10 (listV rs)) with
  | none => exact ⟨⟨#[]⟩, 1, putM_no m0 m1 m2 m3 m4 m5 m6 m8 m9 m10 nb rs hk h, rputM_no m0 m1 m2 m3 m4 m5 m6 m8 m9 m10 nb rs (argM_row hr) h, .inr rfl⟩
  | some b => exact ⟨bS (77 :: b), 0, putM_ok m0 m1 m2 m3 m4 m5 m6 m8 m9 m10 nb rs hk b h, rputM_ok m0 m1 m2 m3 m4 m5 m6 m8 m9 m10 nb rs (argM_row hr) b h, .inl ⟨rfl, Is.put (c := 77) (allFM m0 m1 m2 m3 m4 m5 m6 m8 m9 m10 rs (argM_isL hr)) h⟩⟩
theorem messages_law (m0 m1 m2 m3 m4 m5 m6 m8 : Int) (m9 : Bool) (m10 : ByteArray) (nb : Bool) (rs : List (List AVal)) (hb : bdM m0 m1 m2 m3 m4 m5 m6 m8) (hr : argM rs) : FOk Try.prog 7 [.agg (rM m0 m1 m2 m3 m4 m5 m6 (.fsl nb 2 rs none) m8 m9 m10)] [] (.bool true) [] := by
  rcases ml_rounds m0 m1 m2 m3 m4 m5 m6 m8 m9 m10 nb rs hr 21 0 rfl with h | ⟨i', hl, h⟩
  · refine FOk.wp (cmsgR_wp m0 m1 m2 m3 m4 m5 m6 m8 m9 m10 nb rs ?_)
    unfold cmsgR_T
    exact ⟨h.trip, rfl, rfl⟩
  · obtain ⟨s, e, p1, p2, hi⟩ := putM_any m0 m1 m2 m3 m4 m5 m6 m8 m9 m10 nb rs hb hr hl
    refine FOk.wp (cmsg_wp m0 m1 m2 m3 m4 m5 m6 m8 m9 m10 nb rs.isEmpty rs i' (litB m10) s e ?_)
    unfold cmsg_T
    refine ⟨h.trip, lightP m10, fun _ => ⟨awakeP, rfl, rfl⟩, fun _ => ⟨p1, p2, fun c => absurd c (by simp), fun _ => ⟨fun c => absurd c (by simp), fun _ => ⟨fun _ => ⟨awakeP, rfl, rfl⟩, fun c => ?_⟩⟩⟩⟩
    rcases hi with ⟨rfl, hi⟩ | rfl
    · exact ⟨fromM_is m0 m1 m2 m3 m4 m5 m6 m8 m9 m10 rs hi, sameMsg_ok m0 m1 m2 m3 m4 m5 m6 m8 m9 m10 nb rs.isEmpty rs (isL_tyM (argM_isL hr)) (by omega), awakeP, rfl, rfl⟩
    · exact absurd c (by decide)
end Go.L12
end

section
set_option linter.unusedVariables false
set_option linter.unusedSimpArgs false
set_option maxRecDepth 100000
namespace Go.L12
open Go Go.Abs Go.Proofs
theorem msg_arg {t : TypeId} (ht : isAggT Try.prog t = true) {a : AVal} (h : okArg Try.prog t [.int .i64, .int .i64, .int .i64, .int .i64, .int .i64, .int .i64, .int .i64, .sl 24 [.int .i64, .str], .int .i64, .bool, .str] a) : ∃ (m0 m1 m2 m3 m4 m5 m6 m8 : Int) (m9 : Bool) (m10 : ByteArray) (nb : Bool) (rs : List (List AVal)), a = .agg (rM m0 m1 m2 m3 m4 m5 m6 (.fsl nb 2 rs none) m8 m9 m10) ∧ bdM m0 m1 m2 m3 m4 m5 m6 m8 ∧ argM rs := by
  unfold okArg at h
  rw [if_pos ht] at h
  obtain ⟨cs, rfl, h⟩ := h
  simp only [okKs, okK] at h
  obtain ⟨v, us, rfl, hv, h⟩ := h
  obtain ⟨m0, rfl, hm0⟩ := hv
  obtain ⟨v, us, rfl, hv, h⟩ := h
  obtain ⟨m1, rfl, hm1⟩ := hv
  obtain ⟨v, us, rfl, hv, h⟩ := h
  obtain ⟨m2, rfl, hm2⟩ := hv
  obtain ⟨v, us, rfl, hv, h⟩ := h
  obtain ⟨m3, rfl, hm3⟩ := hv
  obtain ⟨v, us, rfl, hv, h⟩ := h
  obtain ⟨m4, rfl, hm4⟩ := hv
  obtain ⟨v, us, rfl, hv, h⟩ := h
  obtain ⟨m5, rfl, hm5⟩ := hv
  obtain ⟨v, us, rfl, hv, h⟩ := h
  obtain ⟨m6, rfl, hm6⟩ := hv
  obtain ⟨v, us, rfl, hv, h⟩ := h
  obtain ⟨nb, rs, rfl, _, _, _, hr⟩ := hv
  obtain ⟨v, us, rfl, hv, h⟩ := h
  obtain ⟨m8, rfl, hm8⟩ := hv
  obtain ⟨v, us, rfl, hv, h⟩ := h
  obtain ⟨m9, rfl⟩ := hv
  obtain ⟨v, us, rfl, hv, h⟩ := h
  obtain ⟨m10, rfl, _⟩ := hv
  subst h
  refine ⟨m0, m1, m2, m3, m4, m5, m6, m8, m9, m10, nb, rs, rfl, ⟨i64_wf hm0, i64_wf hm1, i64_wf hm2, i64_wf hm3, i64_wf hm4, i64_wf hm5, i64_wf hm6, i64_wf hm8⟩, fun row hrow => ?_⟩
  obtain ⟨v, us, rfl, ⟨x, rfl, hx⟩, v2, us2, rfl, ⟨y, rfl, _⟩, rfl⟩ := hr row hrow
  exact ⟨x, y, rfl, i64_wf hx⟩
theorem messages_row (xs : List AVal) (h : okArgs Try.prog Try.f7.params.toList [[.int .i64, .int .i64, .int .i64, .int .i64, .int .i64, .int .i64, .int .i64, .sl 24 [.int .i64, .str], .int .i64, .bool, .str]] xs) : ∃ σ', FOk Try.prog 7 xs [] (.bool true) σ' := by
  obtain ⟨a, bs, rfl, h1, h2⟩ := h
  cases h2
  obtain ⟨m0, m1, m2, m3, m4, m5, m6, m8, m9, m10, nb, rs, rfl, hb, hr⟩ := msg_arg (by kernel_rfl) h1
  exact ⟨_, messages_law m0 m1 m2 m3 m4 m5 m6 m8 m9 m10 nb rs hb hr⟩
end Go.L12
end

import Derived.Test.YtpkbeinnflbemaaL06N
set_option linter.unusedVariables false
set_option maxRecDepth 100000
namespace Go.L06
open Go Go.Abs Go.Proofs

theorem slice_1 (a : Int) (m : Int) (i : Int) (k : Int) (e : Int) (o : Int) (b : Bool) (n : Nat) (n2 : Nat) (rs : List (List AVal)) (rs2 : List (List AVal))
    (h1 : decide (o < 0) = true) :
    FOk Try.prog 21 ([logP, AVal.int IntKind.i64 i, AVal.int IntKind.i64 o]) (LogO a m b n rs) (AVal.tuple [AVal.fsl true 2 [] none, AVal.int IntKind.i64 1]) ([AObj.rows false 4 [[AVal.int IntKind.i64 a, AVal.int IntKind.i64 m, AVal.slc b 1 2 0 n none, AVal.tt true]], AObj.rows true 2 rs]) :=
  (evalF_ok followed Try.func21 (by kernel_rfl) (show evalF Try.prog Try.f21 ([logP, AVal.int IntKind.i64 i, AVal.int IntKind.i64 o]) (LogO a m b n rs) ([Dec.br true]) = .ok (FRes.mk (AVal.tuple [AVal.fsl true 2 [] none, AVal.int IntKind.i64 1]) ([AObj.rows false 4 [[AVal.int IntKind.i64 a, AVal.int IntKind.i64 m, AVal.slc b 1 2 0 n none, AVal.tt true]], AObj.rows true 2 rs]) [decide (o < 0) = true]) by kernel_rfl) (allP_of (⟨h1, trivial⟩))).move ([0, 1]) (by kernel_rfl) (by kernel_rfl) (by kernel_rfl)

theorem slice_2 (a : Int) (m : Int) (i : Int) (k : Int) (e : Int) (o : Int) (b : Bool) (n : Nat) (n2 : Nat) (rs : List (List AVal)) (rs2 : List (List AVal))
    (h1 : (e != 0) = true)
    (h2 : FOk Try.prog 25 [AVal.ptr 0 4 0 0, AVal.int IntKind.i64 i] [AObj.rows false 4 [[AVal.int IntKind.i64 a, AVal.int IntKind.i64 m, AVal.slc b 1 2 0 n none, AVal.tt true]], AObj.rows true 2 rs] (AVal.tuple [AVal.int IntKind.i64 k, AVal.int IntKind.i64 e]) [AObj.rows false 4 [[AVal.int IntKind.i64 a, AVal.int IntKind.i64 m, AVal.slc b 1 2 0 n none, AVal.tt true]], AObj.rows true 2 rs])
    (h3 : decide (o < 0) = false) :
    FOk Try.prog 21 ([logP, AVal.int IntKind.i64 i, AVal.int IntKind.i64 o]) (LogO a m b n rs) (AVal.tuple [AVal.fsl true 2 [] none, AVal.int IntKind.i64 e]) ([AObj.rows false 4 [[AVal.int IntKind.i64 a, AVal.int IntKind.i64 m, AVal.slc b 1 2 0 n none, AVal.tt true]], AObj.rows true 2 rs]) :=
  (evalF_ok followed Try.func21 (by kernel_rfl) (show evalF Try.prog Try.f21 ([logP, AVal.int IntKind.i64 i, AVal.int IntKind.i64 o]) (LogO a m b n rs) ([Dec.br false, Dec.use [0, 1] [AVal.ptr 0 4 0 0, AVal.int IntKind.i64 i] [AObj.rows false 4 [[AVal.int IntKind.i64 a, AVal.int IntKind.i64 m, AVal.slc b 1 2 0 n none, AVal.tt true]], AObj.rows true 2 rs] (AVal.tuple [AVal.int IntKind.i64 k, AVal.int IntKind.i64 e]) [AObj.rows false 4 [[AVal.int IntKind.i64 a, AVal.int IntKind.i64 m, AVal.slc b 1 2 0 n none, AVal.tt true]], AObj.rows true 2 rs], Dec.br true]) = .ok (FRes.mk (AVal.tuple [AVal.fsl true 2 [] none, AVal.int IntKind.i64 e]) ([AObj.rows false 4 [[AVal.int IntKind.i64 a, AVal.int IntKind.i64 m, AVal.slc b 1 2 0 n none, AVal.tt true]], AObj.rows true 2 rs]) [(e != 0) = true,
    Owed.use (owed Try.prog 2) 25 [0, 1] [AVal.ptr 0 4 0 0, AVal.int IntKind.i64 i] [AObj.rows false 4 [[AVal.int IntKind.i64 a, AVal.int IntKind.i64 m, AVal.slc b 1 2 0 n none, AVal.tt true]], AObj.rows true 2 rs] [AVal.ptr 0 4 0 0, AVal.int IntKind.i64 i] [AObj.rows false 4 [[AVal.int IntKind.i64 a, AVal.int IntKind.i64 m, AVal.slc b 1 2 0 n none, AVal.tt true]], AObj.rows true 2 rs] (AVal.tuple [AVal.int IntKind.i64 k, AVal.int IntKind.i64 e]) [AObj.rows false 4 [[AVal.int IntKind.i64 a, AVal.int IntKind.i64 m, AVal.slc b 1 2 0 n none, AVal.tt true]], AObj.rows true 2 rs],
    decide (o < 0) = false]) by kernel_rfl) (allP_of (⟨h1, ⟨h2, rfl, rfl, rfl⟩, h3, trivial⟩))).move ([0, 1]) (by kernel_rfl) (by kernel_rfl) (by kernel_rfl)

theorem slice_3 (a : Int) (m : Int) (i : Int) (k : Int) (e : Int) (o : Int) (b : Bool) (n : Nat) (n2 : Nat) (rs : List (List AVal)) (rs2 : List (List AVal))
    (h1 : FOk Try.prog 24 [AVal.slc b 0 2 (Int.toNat k + 0) (Int.toNat (imin (↑n : Int) (IntKind.wrap IntKind.i64 (k + imin o (↑n : Int)))) - Int.toNat k) none] [AObj.rows true 2 rs] (AVal.slc false 1 2 0 n2 none) [AObj.rows true 2 rs, AObj.rows true 2 rs2])
    (h2 : decide (0 ≤ k ∧ k ≤ imin (↑n : Int) (IntKind.wrap IntKind.i64 (k + imin o (↑n : Int))) ∧ imin (↑n : Int) (IntKind.wrap IntKind.i64 (k + imin o (↑n : Int))) ≤ (↑n : Int)) = true)
    (h3 : (e != 0) = false)
    (h4 : FOk Try.prog 25 [AVal.ptr 0 4 0 0, AVal.int IntKind.i64 i] [AObj.rows false 4 [[AVal.int IntKind.i64 a, AVal.int IntKind.i64 m, AVal.slc b 1 2 0 n none, AVal.tt true]], AObj.rows true 2 rs] (AVal.tuple [AVal.int IntKind.i64 k, AVal.int IntKind.i64 e]) [AObj.rows false 4 [[AVal.int IntKind.i64 a, AVal.int IntKind.i64 m, AVal.slc b 1 2 0 n none, AVal.tt true]], AObj.rows true 2 rs])
    (h5 : decide (o < 0) = false) :
    FOk Try.prog 21 ([logP, AVal.int IntKind.i64 i, AVal.int IntKind.i64 o]) (LogO a m b n rs) (AVal.tuple [AVal.slc false 2 2 0 n2 none, AVal.int IntKind.i64 0]) ([AObj.rows false 4 [[AVal.int IntKind.i64 a, AVal.int IntKind.i64 m, AVal.slc b 1 2 0 n none, AVal.tt true]], AObj.rows true 2 rs, AObj.rows true 2 rs2]) :=
  (evalF_ok followed Try.func21 (by kernel_rfl) (show evalF Try.prog Try.f21 ([logP, AVal.int IntKind.i64 i, AVal.int IntKind.i64 o]) (LogO a m b n rs) ([Dec.br false, Dec.use [0, 1] [AVal.ptr 0 4 0 0, AVal.int IntKind.i64 i] [AObj.rows false 4 [[AVal.int IntKind.i64 a, AVal.int IntKind.i64 m, AVal.slc b 1 2 0 n none, AVal.tt true]], AObj.rows true 2 rs] (AVal.tuple [AVal.int IntKind.i64 k, AVal.int IntKind.i64 e]) [AObj.rows false 4 [[AVal.int IntKind.i64 a, AVal.int IntKind.i64 m, AVal.slc b 1 2 0 n none, AVal.tt true]], AObj.rows true 2 rs], Dec.br false, Dec.use [1] [AVal.slc b 0 2 (Int.toNat k + 0) (Int.toNat (imin (↑n : Int) (IntKind.wrap IntKind.i64 (k + imin o (↑n : Int)))) - Int.toNat k) none] [AObj.rows true 2 rs] (AVal.slc false 1 2 0 n2 none) [AObj.rows true 2 rs, AObj.rows true 2 rs2]]) = .ok (FRes.mk (AVal.tuple [AVal.slc false 2 2 0 n2 none, AVal.int IntKind.i64 0]) ([AObj.rows false 4 [[AVal.int IntKind.i64 a, AVal.int IntKind.i64 m, AVal.slc b 1 2 0 n none, AVal.tt true]], AObj.rows true 2 rs, AObj.rows true 2 rs2]) [true = true,
    true = true,
    true = true,
    true = true,
    true = true,
    true = true,
    Owed.use (owed Try.prog 2) 24 [1] [AVal.slc b 1 2 (Int.toNat k + 0) (Int.toNat (imin (↑n : Int) (IntKind.wrap IntKind.i64 (k + imin o (↑n : Int)))) - Int.toNat k) none] [AObj.rows false 4 [[AVal.int IntKind.i64 a, AVal.int IntKind.i64 m, AVal.slc b 1 2 0 n none, AVal.tt true]], AObj.rows true 2 rs] [AVal.slc b 0 2 (Int.toNat k + 0) (Int.toNat (imin (↑n : Int) (IntKind.wrap IntKind.i64 (k + imin o (↑n : Int)))) - Int.toNat k) none] [AObj.rows true 2 rs] (AVal.slc false 1 2 0 n2 none) [AObj.rows true 2 rs, AObj.rows true 2 rs2],
    true = true,
    true = true,
    decide (0 ≤ k ∧ k ≤ imin (↑n : Int) (IntKind.wrap IntKind.i64 (k + imin o (↑n : Int))) ∧ imin (↑n : Int) (IntKind.wrap IntKind.i64 (k + imin o (↑n : Int))) ≤ (↑n : Int)) = true,
    true = true,
    true = true,
    true = true,
    true = true,
    true = true,
    true = true,
    true = true,
    true = true,
    true = true,
    true = true,
    true = true,
    true = true,
    true = true,
    true = true,
    true = true,
    true = true,
    true = true,
    true = true,
    true = true,
    true = true,
    true = true,
    true = true,
    true = true,
    true = true,
    true = true,
    true = true,
    true = true,
    true = true,
    true = true,
    true = true,
    true = true,
    true = true,
    true = true,
    true = true,
    true = true,
    true = true,
    true = true,
    true = true,
    true = true,
    true = true,
    true = true,
    true = true,
    true = true,
    true = true,
    true = true,
    true = true,
    true = true,
    true = true,
    true = true,
    true = true,
    true = true,
    true = true,
    true = true,
    true = true,
    true = true,
    true = true,
    true = true,
    true = true,
    true = true,
    true = true,
    true = true,
    true = true,
    true = true,
    true = true,
    true = true,
    true = true,
    true = true,
    true = true,
    true = true,
    true = true,
    true = true,
    true = true,
    true = true,
    true = true,
    true = true,
    true = true,
    true = true,
    true = true,
    true = true,
    true = true,
    true = true,
    (e != 0) = false,
    Owed.use (owed Try.prog 2) 25 [0, 1] [AVal.ptr 0 4 0 0, AVal.int IntKind.i64 i] [AObj.rows false 4 [[AVal.int IntKind.i64 a, AVal.int IntKind.i64 m, AVal.slc b 1 2 0 n none, AVal.tt true]], AObj.rows true 2 rs] [AVal.ptr 0 4 0 0, AVal.int IntKind.i64 i] [AObj.rows false 4 [[AVal.int IntKind.i64 a, AVal.int IntKind.i64 m, AVal.slc b 1 2 0 n none, AVal.tt true]], AObj.rows true 2 rs] (AVal.tuple [AVal.int IntKind.i64 k, AVal.int IntKind.i64 e]) [AObj.rows false 4 [[AVal.int IntKind.i64 a, AVal.int IntKind.i64 m, AVal.slc b 1 2 0 n none, AVal.tt true]], AObj.rows true 2 rs],
    decide (o < 0) = false]) by kernel_rfl) (allP_of (⟨rfl, rfl, rfl, rfl, rfl, rfl, ⟨h1, rfl, rfl, rfl⟩, rfl, rfl, h2, rfl, rfl, rfl, rfl, rfl, rfl, rfl, rfl, rfl, rfl, rfl, rfl, rfl, rfl, rfl, rfl, rfl, rfl, rfl, rfl, rfl, rfl, rfl, rfl, rfl, rfl, rfl, rfl, rfl, rfl, rfl, rfl, rfl, rfl, rfl, rfl, rfl, rfl, rfl, rfl, rfl, rfl, rfl, rfl, rfl, rfl, rfl, rfl, rfl, rfl, rfl, rfl, rfl, rfl, rfl, rfl, rfl, rfl, rfl, rfl, rfl, rfl, rfl, rfl, rfl, rfl, rfl, rfl, rfl, rfl, rfl, rfl, rfl, rfl, rfl, rfl, rfl, rfl, rfl, rfl, rfl, h3, ⟨h4, rfl, rfl, rfl⟩, h5, trivial⟩))).move ([0, 1, 2]) (by kernel_rfl) (by kernel_rfl) (by kernel_rfl)


theorem sliceN_1 (a : Int) (m : Int) (i : Int) (k : Int) (e : Int) (o : Int) (b : Bool) (n : Nat) (rs : List (List AVal))
    (h1 : FOk Try.prog 24 [AVal.slc true 0 2 (Int.toNat k + 0) (Int.toNat (imin (↑n : Int) (IntKind.wrap IntKind.i64 (k + imin o (↑n : Int)))) - Int.toNat k) none] [AObj.rows true 2 rs] (AVal.fsl true 2 [] none) [AObj.rows true 2 rs])
    (h2 : decide (0 ≤ k ∧ k ≤ imin (↑n : Int) (IntKind.wrap IntKind.i64 (k + imin o (↑n : Int))) ∧ imin (↑n : Int) (IntKind.wrap IntKind.i64 (k + imin o (↑n : Int))) ≤ (↑n : Int)) = true)
    (h3 : (e != 0) = false)
    (h4 : FOk Try.prog 25 [AVal.ptr 0 4 0 0, AVal.int IntKind.i64 i] [AObj.rows false 4 [[AVal.int IntKind.i64 a, AVal.int IntKind.i64 m, AVal.slc true 1 2 0 n none, AVal.tt true]], AObj.rows true 2 rs] (AVal.tuple [AVal.int IntKind.i64 k, AVal.int IntKind.i64 e]) [AObj.rows false 4 [[AVal.int IntKind.i64 a, AVal.int IntKind.i64 m, AVal.slc true 1 2 0 n none, AVal.tt true]], AObj.rows true 2 rs])
    (h5 : decide (o < 0) = false) :
    FOk Try.prog 21 ([logP, AVal.int IntKind.i64 i, AVal.int IntKind.i64 o]) (LogO a m true n rs) (AVal.tuple [AVal.fsl true 2 [] none, AVal.int IntKind.i64 0]) ([AObj.rows false 4 [[AVal.int IntKind.i64 a, AVal.int IntKind.i64 m, AVal.slc true 1 2 0 n none, AVal.tt true]], AObj.rows true 2 rs]) :=
  (evalF_ok followed Try.func21 (by kernel_rfl) (show evalF Try.prog Try.f21 ([logP, AVal.int IntKind.i64 i, AVal.int IntKind.i64 o]) (LogO a m true n rs) ([Dec.br false, Dec.use [0, 1] [AVal.ptr 0 4 0 0, AVal.int IntKind.i64 i] [AObj.rows false 4 [[AVal.int IntKind.i64 a, AVal.int IntKind.i64 m, AVal.slc true 1 2 0 n none, AVal.tt true]], AObj.rows true 2 rs] (AVal.tuple [AVal.int IntKind.i64 k, AVal.int IntKind.i64 e]) [AObj.rows false 4 [[AVal.int IntKind.i64 a, AVal.int IntKind.i64 m, AVal.slc true 1 2 0 n none, AVal.tt true]], AObj.rows true 2 rs], Dec.br false, Dec.use [1] [AVal.slc true 0 2 (Int.toNat k + 0) (Int.toNat (imin (↑n : Int) (IntKind.wrap IntKind.i64 (k + imin o (↑n : Int)))) - Int.toNat k) none] [AObj.rows true 2 rs] (AVal.fsl true 2 [] none) [AObj.rows true 2 rs]]) = .ok (FRes.mk (AVal.tuple [AVal.fsl true 2 [] none, AVal.int IntKind.i64 0]) ([AObj.rows false 4 [[AVal.int IntKind.i64 a, AVal.int IntKind.i64 m, AVal.slc true 1 2 0 n none, AVal.tt true]], AObj.rows true 2 rs]) [true = true,
    true = true,
    true = true,
    true = true,
    true = true,
    true = true,
    Owed.use (owed Try.prog 2) 24 [1] [AVal.slc true 1 2 (Int.toNat k + 0) (Int.toNat (imin (↑n : Int) (IntKind.wrap IntKind.i64 (k + imin o (↑n : Int)))) - Int.toNat k) none] [AObj.rows false 4 [[AVal.int IntKind.i64 a, AVal.int IntKind.i64 m, AVal.slc true 1 2 0 n none, AVal.tt true]], AObj.rows true 2 rs] [AVal.slc true 0 2 (Int.toNat k + 0) (Int.toNat (imin (↑n : Int) (IntKind.wrap IntKind.i64 (k + imin o (↑n : Int)))) - Int.toNat k) none] [AObj.rows true 2 rs] (AVal.fsl true 2 [] none) [AObj.rows true 2 rs],
    true = true,
    true = true,
    decide (0 ≤ k ∧ k ≤ imin (↑n : Int) (IntKind.wrap IntKind.i64 (k + imin o (↑n : Int))) ∧ imin (↑n : Int) (IntKind.wrap IntKind.i64 (k + imin o (↑n : Int))) ≤ (↑n : Int)) = true,
    true = true,
    true = true,
    true = true,
    true = true,
    true = true,
    true = true,
    true = true,
    true = true,
    true = true,
    true = true,
    true = true,
    true = true,
    true = true,
    true = true,
    true = true,
    true = true,
    true = true,
    true = true,
    true = true,
    true = true,
    true = true,
    true = true,
    true = true,
    true = true,
    true = true,
    true = true,
    true = true,
    true = true,
    true = true,
    true = true,
    true = true,
    true = true,
    true = true,
    true = true,
    true = true,
    true = true,
    true = true,
    true = true,
    true = true,
    true = true,
    true = true,
    true = true,
    true = true,
    true = true,
    true = true,
    true = true,
    true = true,
    true = true,
    true = true,
    true = true,
    true = true,
    true = true,
    true = true,
    true = true,
    true = true,
    true = true,
    true = true,
    true = true,
    true = true,
    true = true,
    true = true,
    true = true,
    true = true,
    true = true,
    true = true,
    true = true,
    true = true,
    true = true,
    true = true,
    true = true,
    true = true,
    true = true,
    true = true,
    true = true,
    true = true,
    true = true,
    true = true,
    true = true,
    true = true,
    true = true,
    true = true,
    (e != 0) = false,
    Owed.use (owed Try.prog 2) 25 [0, 1] [AVal.ptr 0 4 0 0, AVal.int IntKind.i64 i] [AObj.rows false 4 [[AVal.int IntKind.i64 a, AVal.int IntKind.i64 m, AVal.slc true 1 2 0 n none, AVal.tt true]], AObj.rows true 2 rs] [AVal.ptr 0 4 0 0, AVal.int IntKind.i64 i] [AObj.rows false 4 [[AVal.int IntKind.i64 a, AVal.int IntKind.i64 m, AVal.slc true 1 2 0 n none, AVal.tt true]], AObj.rows true 2 rs] (AVal.tuple [AVal.int IntKind.i64 k, AVal.int IntKind.i64 e]) [AObj.rows false 4 [[AVal.int IntKind.i64 a, AVal.int IntKind.i64 m, AVal.slc true 1 2 0 n none, AVal.tt true]], AObj.rows true 2 rs],
    decide (o < 0) = false]) by kernel_rfl) (allP_of (⟨rfl, rfl, rfl, rfl, rfl, rfl, ⟨h1, rfl, rfl, rfl⟩, rfl, rfl, h2, rfl, rfl, rfl, rfl, rfl, rfl, rfl, rfl, rfl, rfl, rfl, rfl, rfl, rfl, rfl, rfl, rfl, rfl, rfl, rfl, rfl, rfl, rfl, rfl, rfl, rfl, rfl, rfl, rfl, rfl, rfl, rfl, rfl, rfl, rfl, rfl, rfl, rfl, rfl, rfl, rfl, rfl, rfl, rfl, rfl, rfl, rfl, rfl, rfl, rfl, rfl, rfl, rfl, rfl, rfl, rfl, rfl, rfl, rfl, rfl, rfl, rfl, rfl, rfl, rfl, rfl, rfl, rfl, rfl, rfl, rfl, rfl, rfl, rfl, rfl, rfl, rfl, rfl, rfl, rfl, rfl, h3, ⟨h4, rfl, rfl, rfl⟩, h5, trivial⟩))).move ([0, 1]) (by kernel_rfl) (by kernel_rfl) (by kernel_rfl)


def rgS (o j : Int) (bo : Bool) (n : Nat) : Regs := mkR 48 [(2, .int .i64 o), (3, .ptr 0 3 0 0), (8, .slc bo 1 2 0 n none), (9, .int .i64 j)]
abbrev SO (a m : Int) (b : Bool) (rs out : List (List AVal)) : AState := [.rows false 3 [[.int .i64 a, .int .i64 m, .fsl b 2 rs none]], .rows true 2 out]
theorem rsl_1 (a : Int) (m : Int) (o : Int) (j : Int) (b : Bool) (bo : Bool) (rs : List (List AVal)) (out : List (List AVal))
    (h1 : decide (List.length out = List.length out) = true)
    (h2 : decide ((List.length out + List.length [[AVal.int IntKind.i64 (AVal.toInt (List.getD (List.getD rs (Int.toNat j) []) 0 AVal.any)), AVal.str (AVal.toStr (List.getD (List.getD rs (Int.toNat j) []) 1 AVal.any))]]) * 24 ≤ 140737488355328 ∧ List.length out + List.length [[AVal.int IntKind.i64 (AVal.toInt (List.getD (List.getD rs (Int.toNat j) []) 0 AVal.any)), AVal.str (AVal.toStr (List.getD (List.getD rs (Int.toNat j) []) 1 AVal.any))]] ≤ 9223372036854775807) = true)
    (h3 : decide (Int.toNat j < List.length rs) = true)
    (h4 : areKinds [Kind.int IntKind.i64, Kind.str] [List.getD (List.getD rs (Int.toNat j) []) 0 AVal.any, List.getD (List.getD rs (Int.toNat j) []) 1 AVal.any] = true)
    (h5 : decide (0 ≤ j ∧ j < (↑(List.length rs) : Int)) = true)
    (h6 : decide ((↑(List.length out) : Int) < o) = true)
    (h7 : decide (j < (↑(List.length rs) : Int)) = true) :
    TripN Try.prog 0 (loopNo Try.f31 0) (rgS o j bo (List.length out)) (SO a m b rs out) (AExit.normal) (mkR 48 [(2, AVal.int IntKind.i64 o), (3, AVal.ptr 0 3 0 0), (8, AVal.slc (bo && List.isEmpty [[AVal.int IntKind.i64 (AVal.toInt (List.getD (List.getD rs (Int.toNat j) []) 0 AVal.any)), AVal.str (AVal.toStr (List.getD (List.getD rs (Int.toNat j) []) 1 AVal.any))]]) 1 2 0 (List.length out + List.length [[AVal.int IntKind.i64 (AVal.toInt (List.getD (List.getD rs (Int.toNat j) []) 0 AVal.any)), AVal.str (AVal.toStr (List.getD (List.getD rs (Int.toNat j) []) 1 AVal.any))]]) none), (9, AVal.int IntKind.i64 (IntKind.wrap IntKind.i64 (j + 1)))]) ([AObj.rows false 3 [[AVal.int IntKind.i64 a, AVal.int IntKind.i64 m, AVal.fsl b 2 rs none]], AObj.rows true 2 (out ++ [[AVal.int IntKind.i64 (AVal.toInt (List.getD (List.getD rs (Int.toNat j) []) 0 AVal.any)), AVal.str (AVal.toStr (List.getD (List.getD rs (Int.toNat j) []) 1 AVal.any))]])]) :=
  evalT (st := St.mk (rgS o j bo (List.length out)) (SO a m b rs out) ([Dec.br true, Dec.br true]) []) (st' := St.mk ([AVal.any, AVal.any, AVal.int IntKind.i64 o, AVal.ptr 0 3 0 0, AVal.any, AVal.any, AVal.any, AVal.any, AVal.slc (bo && List.isEmpty [[AVal.int IntKind.i64 (AVal.toInt (List.getD (List.getD rs (Int.toNat j) []) 0 AVal.any)), AVal.str (AVal.toStr (List.getD (List.getD rs (Int.toNat j) []) 1 AVal.any))]]) 3 2 0 (List.length out + List.length [[AVal.int IntKind.i64 (AVal.toInt (List.getD (List.getD rs (Int.toNat j) []) 0 AVal.any)), AVal.str (AVal.toStr (List.getD (List.getD rs (Int.toNat j) []) 1 AVal.any))]]) none, AVal.int IntKind.i64 (IntKind.wrap IntKind.i64 (j + 1)), AVal.any, AVal.any, AVal.any, AVal.any, AVal.any, AVal.any, AVal.any, AVal.any, AVal.any, AVal.any, AVal.any, AVal.any, AVal.any, AVal.any, AVal.any, AVal.any, AVal.int IntKind.i64 j, AVal.ptr 0 3 0 2, AVal.fsl b 2 rs none, AVal.int IntKind.i64 (↑(List.length rs) : Int), AVal.bool (decide (j < (↑(List.length rs) : Int))), AVal.tt true, AVal.slc bo 1 2 0 (List.length out) none, AVal.int IntKind.i64 (↑(List.length out) : Int), AVal.int IntKind.i64 o, AVal.bool (decide ((↑(List.length out) : Int) < o)), AVal.tt true, AVal.int IntKind.i64 j, AVal.int IntKind.i64 (IntKind.wrap IntKind.i64 (j + 1)), AVal.slc bo 1 2 0 (List.length out) none, AVal.ptr 0 3 0 2, AVal.fsl b 2 rs none, AVal.int IntKind.i64 j, AVal.fptr 2 rs (Int.toNat j) 0, AVal.agg [AVal.int IntKind.i64 (AVal.toInt (List.getD (List.getD rs (Int.toNat j) []) 0 AVal.any)), AVal.str (AVal.toStr (List.getD (List.getD rs (Int.toNat j) []) 1 AVal.any))], AVal.slc false 2 2 0 1 (some 1), AVal.slc (bo && List.isEmpty [[AVal.int IntKind.i64 (AVal.toInt (List.getD (List.getD rs (Int.toNat j) []) 0 AVal.any)), AVal.str (AVal.toStr (List.getD (List.getD rs (Int.toNat j) []) 1 AVal.any))]]) 3 2 0 (List.length out + List.length [[AVal.int IntKind.i64 (AVal.toInt (List.getD (List.getD rs (Int.toNat j) []) 0 AVal.any)), AVal.str (AVal.toStr (List.getD (List.getD rs (Int.toNat j) []) 1 AVal.any))]]) none, AVal.any]) ([AObj.rows false 3 [[AVal.int IntKind.i64 a, AVal.int IntKind.i64 m, AVal.fsl b 2 rs none]], AObj.dead, AObj.rows true 2 [[AVal.int IntKind.i64 (AVal.toInt (List.getD (List.getD rs (Int.toNat j) []) 0 AVal.any)), AVal.str (AVal.toStr (List.getD (List.getD rs (Int.toNat j) []) 1 AVal.any))]], AObj.rows true 2 (out ++ [[AVal.int IntKind.i64 (AVal.toInt (List.getD (List.getD rs (Int.toNat j) []) 0 AVal.any)), AVal.str (AVal.toStr (List.getD (List.getD rs (Int.toNat j) []) 1 AVal.any))]])]) ([]) [decide (List.length out = List.length out) = true,
    decide ((List.length out + List.length [[AVal.int IntKind.i64 (AVal.toInt (List.getD (List.getD rs (Int.toNat j) []) 0 AVal.any)), AVal.str (AVal.toStr (List.getD (List.getD rs (Int.toNat j) []) 1 AVal.any))]]) * 24 ≤ 140737488355328 ∧ List.length out + List.length [[AVal.int IntKind.i64 (AVal.toInt (List.getD (List.getD rs (Int.toNat j) []) 0 AVal.any)), AVal.str (AVal.toStr (List.getD (List.getD rs (Int.toNat j) []) 1 AVal.any))]] ≤ 9223372036854775807) = true,
    true = true,
    true = true,
    decide (Int.toNat j < List.length rs) = true,
    true = true,
    areKinds [Kind.int IntKind.i64, Kind.str] [List.getD (List.getD rs (Int.toNat j) []) 0 AVal.any, List.getD (List.getD rs (Int.toNat j) []) 1 AVal.any] = true,
    decide (0 ≤ j ∧ j < (↑(List.length rs) : Int)) = true,
    true = true,
    true = true,
    decide ((↑(List.length out) : Int) < o) = true,
    decide (j < (↑(List.length rs) : Int)) = true,
    true = true,
    true = true]) followed (by kernel_rfl) (allP_of (⟨h1, h2, rfl, rfl, h3, rfl, h4, h5, rfl, rfl, h6, h7, rfl, rfl, trivial⟩)) (keepM 48 [2, 3, 8, 9]) ([0, 3]) (by kernel_rfl) (by kernel_rfl) (by kernel_rfl)

theorem rsl_2 (a : Int) (m : Int) (o : Int) (j : Int) (b : Bool) (bo : Bool) (rs : List (List AVal)) (out : List (List AVal))
    (h1 : decide ((↑(List.length out) : Int) < o) = false)
    (h2 : decide (j < (↑(List.length rs) : Int)) = true) :
    TripN Try.prog 0 (loopNo Try.f31 0) (rgS o j bo (List.length out)) (SO a m b rs out) (AExit.exit 0) (mkR 48 [(2, AVal.int IntKind.i64 o), (3, AVal.ptr 0 3 0 0), (8, AVal.slc bo 1 2 0 (List.length out) none), (9, AVal.int IntKind.i64 j)]) ([AObj.rows false 3 [[AVal.int IntKind.i64 a, AVal.int IntKind.i64 m, AVal.fsl b 2 rs none]], AObj.rows true 2 out]) :=
  evalT (st := St.mk (rgS o j bo (List.length out)) (SO a m b rs out) ([Dec.br true, Dec.br false]) []) (st' := St.mk ([AVal.any, AVal.any, AVal.int IntKind.i64 o, AVal.ptr 0 3 0 0, AVal.any, AVal.any, AVal.any, AVal.any, AVal.slc bo 1 2 0 (List.length out) none, AVal.int IntKind.i64 j, AVal.any, AVal.any, AVal.any, AVal.any, AVal.any, AVal.any, AVal.any, AVal.any, AVal.any, AVal.any, AVal.any, AVal.any, AVal.any, AVal.any, AVal.any, AVal.any, AVal.int IntKind.i64 j, AVal.ptr 0 3 0 2, AVal.fsl b 2 rs none, AVal.int IntKind.i64 (↑(List.length rs) : Int), AVal.bool (decide (j < (↑(List.length rs) : Int))), AVal.tt true, AVal.slc bo 1 2 0 (List.length out) none, AVal.int IntKind.i64 (↑(List.length out) : Int), AVal.int IntKind.i64 o, AVal.bool (decide ((↑(List.length out) : Int) < o)), AVal.tt false, AVal.any, AVal.any, AVal.any, AVal.any, AVal.any, AVal.any, AVal.any, AVal.any, AVal.any, AVal.any, AVal.any]) ([AObj.rows false 3 [[AVal.int IntKind.i64 a, AVal.int IntKind.i64 m, AVal.fsl b 2 rs none]], AObj.rows true 2 out]) ([]) [decide ((↑(List.length out) : Int) < o) = false,
    decide (j < (↑(List.length rs) : Int)) = true,
    true = true,
    true = true]) followed (by kernel_rfl) (allP_of (⟨h1, h2, rfl, rfl, trivial⟩)) (keepM 48 [2, 3, 8, 9]) ([0, 1]) (by kernel_rfl) (by kernel_rfl) (by kernel_rfl)

theorem rsl_3 (a : Int) (m : Int) (o : Int) (j : Int) (b : Bool) (bo : Bool) (rs : List (List AVal)) (out : List (List AVal))
    (h1 : decide (j < (↑(List.length rs) : Int)) = false) :
    TripN Try.prog 0 (loopNo Try.f31 0) (rgS o j bo (List.length out)) (SO a m b rs out) (AExit.exit 0) (mkR 48 [(2, AVal.int IntKind.i64 o), (3, AVal.ptr 0 3 0 0), (8, AVal.slc bo 1 2 0 (List.length out) none), (9, AVal.int IntKind.i64 j)]) ([AObj.rows false 3 [[AVal.int IntKind.i64 a, AVal.int IntKind.i64 m, AVal.fsl b 2 rs none]], AObj.rows true 2 out]) :=
  evalT (st := St.mk (rgS o j bo (List.length out)) (SO a m b rs out) ([Dec.br false]) []) (st' := St.mk ([AVal.any, AVal.any, AVal.int IntKind.i64 o, AVal.ptr 0 3 0 0, AVal.any, AVal.any, AVal.any, AVal.any, AVal.slc bo 1 2 0 (List.length out) none, AVal.int IntKind.i64 j, AVal.any, AVal.any, AVal.any, AVal.any, AVal.any, AVal.any, AVal.any, AVal.any, AVal.any, AVal.any, AVal.any, AVal.any, AVal.any, AVal.any, AVal.any, AVal.any, AVal.int IntKind.i64 j, AVal.ptr 0 3 0 2, AVal.fsl b 2 rs none, AVal.int IntKind.i64 (↑(List.length rs) : Int), AVal.bool (decide (j < (↑(List.length rs) : Int))), AVal.tt false, AVal.tuple [], AVal.tuple [], AVal.tuple [], AVal.tuple [], AVal.tt false, AVal.any, AVal.any, AVal.any, AVal.any, AVal.any, AVal.any, AVal.any, AVal.any, AVal.any, AVal.any, AVal.any]) ([AObj.rows false 3 [[AVal.int IntKind.i64 a, AVal.int IntKind.i64 m, AVal.fsl b 2 rs none]], AObj.rows true 2 out]) ([]) [decide (j < (↑(List.length rs) : Int)) = false,
    true = true,
    true = true]) followed (by kernel_rfl) (allP_of (⟨h1, rfl, rfl, trivial⟩)) (keepM 48 [2, 3, 8, 9]) ([0, 1]) (by kernel_rfl) (by kernel_rfl) (by kernel_rfl)


theorem rslF_1 (a : Int) (m : Int) (o : Int) (i : Int) (l : Int) (j : Int) (b : Bool) (bo : Bool) (rs : List (List AVal)) (out : List (List AVal))
    (h1 : decide (o < 0) = true) :
    FOk Try.prog 31 ([qV a m b rs, AVal.int IntKind.i64 i, AVal.int IntKind.i64 o]) ([]) (AVal.tuple [AVal.fsl true 2 [] none, AVal.int IntKind.i64 1]) ([]) :=
  (evalF_ok followed Try.func31 (by kernel_rfl) (show evalF Try.prog Try.f31 ([qV a m b rs, AVal.int IntKind.i64 i, AVal.int IntKind.i64 o]) ([]) ([Dec.br true]) = .ok (FRes.mk (AVal.tuple [AVal.fsl true 2 [] none, AVal.int IntKind.i64 1]) ([AObj.rows false 3 [[AVal.int IntKind.i64 a, AVal.int IntKind.i64 m, AVal.fsl b 2 rs none]]]) [decide (o < 0) = true]) by kernel_rfl) (allP_of (⟨h1, trivial⟩))).move ([]) (by kernel_rfl) (by kernel_rfl) (by kernel_rfl)

theorem rslF_2 (a : Int) (m : Int) (o : Int) (i : Int) (l : Int) (j : Int) (b : Bool) (bo : Bool) (rs : List (List AVal)) (out : List (List AVal))
    (h1 : decide (i ≤ a) = true)
    (h2 : decide (o < 0) = false) :
    FOk Try.prog 31 ([qV a m b rs, AVal.int IntKind.i64 i, AVal.int IntKind.i64 o]) ([]) (AVal.tuple [AVal.fsl true 2 [] none, AVal.int IntKind.i64 60]) ([]) :=
  (evalF_ok followed Try.func31 (by kernel_rfl) (show evalF Try.prog Try.f31 ([qV a m b rs, AVal.int IntKind.i64 i, AVal.int IntKind.i64 o]) ([]) ([Dec.br false, Dec.br true]) = .ok (FRes.mk (AVal.tuple [AVal.fsl true 2 [] none, AVal.int IntKind.i64 60]) ([AObj.rows false 3 [[AVal.int IntKind.i64 a, AVal.int IntKind.i64 m, AVal.fsl b 2 rs none]]]) [decide (i ≤ a) = true,
    true = true,
    true = true,
    decide (o < 0) = false]) by kernel_rfl) (allP_of (⟨h1, rfl, rfl, h2, trivial⟩))).move ([]) (by kernel_rfl) (by kernel_rfl) (by kernel_rfl)

theorem rslF_3 (a : Int) (m : Int) (o : Int) (i : Int) (l : Int) (j : Int) (b : Bool) (bo : Bool) (rs : List (List AVal)) (out : List (List AVal))
    (h1 : decide (i > IntKind.wrap IntKind.i64 (l + 1)) = true)
    (h2 : FOk Try.prog 34 [AVal.agg [AVal.int IntKind.i64 a, AVal.int IntKind.i64 m, AVal.fsl b 2 rs none]] [] (AVal.int IntKind.i64 l) [])
    (h3 : decide (i ≤ a) = false)
    (h4 : decide (o < 0) = false) :
    FOk Try.prog 31 ([qV a m b rs, AVal.int IntKind.i64 i, AVal.int IntKind.i64 o]) ([]) (AVal.tuple [AVal.fsl true 2 [] none, AVal.int IntKind.i64 3]) ([]) :=
  (evalF_ok followed Try.func31 (by kernel_rfl) (show evalF Try.prog Try.f31 ([qV a m b rs, AVal.int IntKind.i64 i, AVal.int IntKind.i64 o]) ([]) ([Dec.br false, Dec.br false, Dec.use [] [AVal.agg [AVal.int IntKind.i64 a, AVal.int IntKind.i64 m, AVal.fsl b 2 rs none]] [] (AVal.int IntKind.i64 l) [], Dec.br true]) = .ok (FRes.mk (AVal.tuple [AVal.fsl true 2 [] none, AVal.int IntKind.i64 3]) ([AObj.rows false 3 [[AVal.int IntKind.i64 a, AVal.int IntKind.i64 m, AVal.fsl b 2 rs none]]]) [decide (i > IntKind.wrap IntKind.i64 (l + 1)) = true,
    Owed.use (owed Try.prog 0) 34 [] [AVal.agg [AVal.int IntKind.i64 a, AVal.int IntKind.i64 m, AVal.fsl b 2 rs none]] [AObj.rows false 3 [[AVal.int IntKind.i64 a, AVal.int IntKind.i64 m, AVal.fsl b 2 rs none]]] [AVal.agg [AVal.int IntKind.i64 a, AVal.int IntKind.i64 m, AVal.fsl b 2 rs none]] [] (AVal.int IntKind.i64 l) [],
    true = true,
    true = true,
    decide (i ≤ a) = false,
    true = true,
    true = true,
    decide (o < 0) = false]) by kernel_rfl) (allP_of (⟨h1, ⟨h2, rfl, rfl, rfl⟩, rfl, rfl, h3, rfl, rfl, h4, trivial⟩))).move ([]) (by kernel_rfl) (by kernel_rfl) (by kernel_rfl)

theorem rslF_4 (a : Int) (m : Int) (o : Int) (i : Int) (l : Int) (j : Int) (b : Bool) (bo : Bool) (rs : List (List AVal)) (out : List (List AVal))
    (h1 : TripN Try.prog 0 (Code.loop (loopNo Try.f31 0)) (mkR 48 [(2, AVal.int IntKind.i64 o), (3, AVal.ptr 0 3 0 0), (8, AVal.slc true 1 2 0 0 none), (9, AVal.int IntKind.i64 (IntKind.wrap IntKind.i64 (IntKind.wrap IntKind.i64 (i - a) - 1)))]) [AObj.rows false 3 [[AVal.int IntKind.i64 a, AVal.int IntKind.i64 m, AVal.fsl b 2 rs none]], AObj.rows true 2 []] (AExit.exit 0) (mkR 48 [(2, AVal.int IntKind.i64 o), (3, AVal.ptr 0 3 0 0), (8, AVal.slc bo 1 2 0 (List.length out) none), (9, AVal.int IntKind.i64 j)]) [AObj.rows false 3 [[AVal.int IntKind.i64 a, AVal.int IntKind.i64 m, AVal.fsl b 2 rs none]], AObj.rows true 2 out])
    (h2 : decide (i > IntKind.wrap IntKind.i64 (l + 1)) = false)
    (h3 : FOk Try.prog 34 [AVal.agg [AVal.int IntKind.i64 a, AVal.int IntKind.i64 m, AVal.fsl b 2 rs none]] [] (AVal.int IntKind.i64 l) [])
    (h4 : decide (i ≤ a) = false)
    (h5 : decide (o < 0) = false) :
    FOk Try.prog 31 ([qV a m b rs, AVal.int IntKind.i64 i, AVal.int IntKind.i64 o]) ([]) (AVal.tuple [AVal.slc bo 0 2 0 (List.length out) none, AVal.int IntKind.i64 0]) ([AObj.rows true 2 out]) :=
  (evalF_ok followed Try.func31 (by kernel_rfl) (show evalF Try.prog Try.f31 ([qV a m b rs, AVal.int IntKind.i64 i, AVal.int IntKind.i64 o]) ([]) ([Dec.br false, Dec.br false, Dec.use [] [AVal.agg [AVal.int IntKind.i64 a, AVal.int IntKind.i64 m, AVal.fsl b 2 rs none]] [] (AVal.int IntKind.i64 l) [], Dec.br false, Dec.place 8 2 true, Dec.compact (keepM 48 [2, 3, 8, 9]) [0, 1], Dec.loop (AExit.exit 0) (rgS o j bo (List.length out)) (SO a m b rs out)]) = .ok (FRes.mk (AVal.tuple [AVal.slc bo 1 2 0 (List.length out) none, AVal.int IntKind.i64 0]) ([AObj.rows false 3 [[AVal.int IntKind.i64 a, AVal.int IntKind.i64 m, AVal.fsl b 2 rs none]], AObj.rows true 2 out]) [Owed.loop (owed Try.prog 0) (loopNo Try.f31 0) (mkR 48 [(2, AVal.int IntKind.i64 o), (3, AVal.ptr 0 3 0 0), (8, AVal.slc true 1 2 0 0 none), (9, AVal.int IntKind.i64 (IntKind.wrap IntKind.i64 (IntKind.wrap IntKind.i64 (i - a) - 1)))]) [AObj.rows false 3 [[AVal.int IntKind.i64 a, AVal.int IntKind.i64 m, AVal.fsl b 2 rs none]], AObj.rows true 2 []] (AExit.exit 0) (mkR 48 [(2, AVal.int IntKind.i64 o), (3, AVal.ptr 0 3 0 0), (8, AVal.slc bo 1 2 0 (List.length out) none), (9, AVal.int IntKind.i64 j)]) [AObj.rows false 3 [[AVal.int IntKind.i64 a, AVal.int IntKind.i64 m, AVal.fsl b 2 rs none]], AObj.rows true 2 out],
    true = true,
    true = true,
    decide (i > IntKind.wrap IntKind.i64 (l + 1)) = false,
    Owed.use (owed Try.prog 0) 34 [] [AVal.agg [AVal.int IntKind.i64 a, AVal.int IntKind.i64 m, AVal.fsl b 2 rs none]] [AObj.rows false 3 [[AVal.int IntKind.i64 a, AVal.int IntKind.i64 m, AVal.fsl b 2 rs none]]] [AVal.agg [AVal.int IntKind.i64 a, AVal.int IntKind.i64 m, AVal.fsl b 2 rs none]] [] (AVal.int IntKind.i64 l) [],
    true = true,
    true = true,
    decide (i ≤ a) = false,
    true = true,
    true = true,
    decide (o < 0) = false]) by kernel_rfl) (allP_of (⟨h1, rfl, rfl, h2, ⟨h3, rfl, rfl, rfl⟩, rfl, rfl, h4, rfl, rfl, h5, trivial⟩))).move ([1]) (by kernel_rfl) (by kernel_rfl) (by kernel_rfl)


def rgM (b c : Bool) (xs : List (List AVal)) (i : Int) : Regs := mkR 26 [(0, .fsl b 2 xs none), (1, .fsl c 2 xs none), (5, .int .i64 i)]
theorem sm_2 (b : Bool) (c : Bool) (xs : List (List AVal)) (i : Int)
    (h1 : (!(fun r => AVal.toInt (List.getD (List.getD xs (Int.toNat i) []) 0 AVal.any) == AVal.toInt (List.getD (List.getD xs (Int.toNat i) []) 0 AVal.any) && r) ((fun r => ByteArray.toList (AVal.toStr (List.getD (List.getD xs (Int.toNat i) []) 1 AVal.any)) == ByteArray.toList (AVal.toStr (List.getD (List.getD xs (Int.toNat i) []) 1 AVal.any)) && r) true)) = false)
    (h2 : decide (Int.toNat i < List.length xs) = true)
    (h3 : areKinds [Kind.int IntKind.i64, Kind.str] [List.getD (List.getD xs (Int.toNat i) []) 0 AVal.any, List.getD (List.getD xs (Int.toNat i) []) 1 AVal.any] = true)
    (h4 : decide (0 ≤ i ∧ i < (↑(List.length xs) : Int)) = true)
    (h5 : decide (i < (↑(List.length xs) : Int)) = true) :
    TripN Try.prog 0 (loopNo Try.f32 0) (rgM b c xs i) ([]) (AExit.normal) (mkR 26 [(0, AVal.fsl b 2 xs none), (1, AVal.fsl c 2 xs none), (5, AVal.int IntKind.i64 (IntKind.wrap IntKind.i64 (i + 1)))]) ([]) :=
  evalT (st := St.mk (rgM b c xs i) ([]) ([Dec.br true, Dec.br false]) []) (st' := St.mk ([AVal.fsl b 2 xs none, AVal.fsl c 2 xs none, AVal.any, AVal.any, AVal.any, AVal.int IntKind.i64 (IntKind.wrap IntKind.i64 (i + 1)), AVal.any, AVal.any, AVal.any, AVal.any, AVal.any, AVal.int IntKind.i64 i, AVal.fsl b 2 xs none, AVal.int IntKind.i64 (↑(List.length xs) : Int), AVal.tt true, AVal.int IntKind.i64 i, AVal.int IntKind.i64 (IntKind.wrap IntKind.i64 (i + 1)), AVal.fsl b 2 xs none, AVal.int IntKind.i64 i, AVal.fptr 2 xs (Int.toNat i) 0, AVal.agg [AVal.int IntKind.i64 (AVal.toInt (List.getD (List.getD xs (Int.toNat i) []) 0 AVal.any)), AVal.str (AVal.toStr (List.getD (List.getD xs (Int.toNat i) []) 1 AVal.any))], AVal.fsl c 2 xs none, AVal.int IntKind.i64 i, AVal.fptr 2 xs (Int.toNat i) 0, AVal.agg [AVal.int IntKind.i64 (AVal.toInt (List.getD (List.getD xs (Int.toNat i) []) 0 AVal.any)), AVal.str (AVal.toStr (List.getD (List.getD xs (Int.toNat i) []) 1 AVal.any))], AVal.tt false]) ([]) ([]) [(!(fun r => AVal.toInt (List.getD (List.getD xs (Int.toNat i) []) 0 AVal.any) == AVal.toInt (List.getD (List.getD xs (Int.toNat i) []) 0 AVal.any) && r) ((fun r => ByteArray.toList (AVal.toStr (List.getD (List.getD xs (Int.toNat i) []) 1 AVal.any)) == ByteArray.toList (AVal.toStr (List.getD (List.getD xs (Int.toNat i) []) 1 AVal.any)) && r) true)) = false,
    true = true,
    true = true,
    true = true,
    true = true,
    decide (Int.toNat i < List.length xs) = true,
    true = true,
    areKinds [Kind.int IntKind.i64, Kind.str] [List.getD (List.getD xs (Int.toNat i) []) 0 AVal.any, List.getD (List.getD xs (Int.toNat i) []) 1 AVal.any] = true,
    true = true,
    true = true,
    decide (0 ≤ i ∧ i < (↑(List.length xs) : Int)) = true,
    true = true,
    true = true,
    true = true,
    true = true,
    true = true,
    true = true,
    decide (Int.toNat i < List.length xs) = true,
    true = true,
    areKinds [Kind.int IntKind.i64, Kind.str] [List.getD (List.getD xs (Int.toNat i) []) 0 AVal.any, List.getD (List.getD xs (Int.toNat i) []) 1 AVal.any] = true,
    true = true,
    true = true,
    decide (0 ≤ i ∧ i < (↑(List.length xs) : Int)) = true,
    true = true,
    true = true,
    true = true,
    true = true,
    true = true,
    decide (i < (↑(List.length xs) : Int)) = true]) followed (by kernel_rfl) (allP_of (⟨h1, rfl, rfl, rfl, rfl, h2, rfl, h3, rfl, rfl, h4, rfl, rfl, rfl, rfl, rfl, rfl, h2, rfl, h3, rfl, rfl, h4, rfl, rfl, rfl, rfl, rfl, h5, trivial⟩)) (keepM 26 [0, 1, 5]) ([]) (by kernel_rfl) (by kernel_rfl) (by kernel_rfl)

theorem sm_3 (b : Bool) (c : Bool) (xs : List (List AVal)) (i : Int)
    (h1 : decide (i < (↑(List.length xs) : Int)) = false) :
    TripN Try.prog 0 (loopNo Try.f32 0) (rgM b c xs i) ([]) (AExit.exit 0) (mkR 26 [(0, AVal.fsl b 2 xs none), (1, AVal.fsl c 2 xs none), (5, AVal.int IntKind.i64 i)]) ([]) :=
  evalT (st := St.mk (rgM b c xs i) ([]) ([Dec.br false]) []) (st' := St.mk ([AVal.fsl b 2 xs none, AVal.fsl c 2 xs none, AVal.any, AVal.any, AVal.any, AVal.int IntKind.i64 i, AVal.any, AVal.any, AVal.any, AVal.any, AVal.any, AVal.int IntKind.i64 i, AVal.fsl b 2 xs none, AVal.int IntKind.i64 (↑(List.length xs) : Int), AVal.tt false, AVal.any, AVal.any, AVal.any, AVal.any, AVal.any, AVal.any, AVal.any, AVal.any, AVal.any, AVal.any, AVal.any]) ([]) ([]) [decide (i < (↑(List.length xs) : Int)) = false]) followed (by kernel_rfl) (allP_of (⟨h1, trivial⟩)) (keepM 26 [0, 1, 5]) ([]) (by kernel_rfl) (by kernel_rfl) (by kernel_rfl)


theorem smF_1 (b : Bool) (c : Bool) (xs : List (List AVal))
    (h1 : ((↑(List.length xs) : Int) != (↑(List.length xs) : Int)) = true) :
    FOk Try.prog 32 ([AVal.fsl b 2 xs none, AVal.fsl c 2 xs none]) ([]) (AVal.bool false) ([]) :=
  (evalF_ok followed Try.func32 (by kernel_rfl) (show evalF Try.prog Try.f32 ([AVal.fsl b 2 xs none, AVal.fsl c 2 xs none]) ([]) ([Dec.br true]) = .ok (FRes.mk (AVal.bool false) ([]) [((↑(List.length xs) : Int) != (↑(List.length xs) : Int)) = true]) by kernel_rfl) (allP_of (⟨h1, trivial⟩))).move ([]) (by kernel_rfl) (by kernel_rfl) (by kernel_rfl)

theorem smF_2 (b : Bool) (c : Bool) (xs : List (List AVal))
    (h1 : TripN Try.prog 0 (Code.loop (loopNo Try.f32 0)) (mkR 26 [(0, AVal.fsl b 2 xs none), (1, AVal.fsl c 2 xs none), (5, AVal.int IntKind.i64 0)]) [] (AExit.exit 0) (mkR 26 [(0, AVal.fsl b 2 xs none), (1, AVal.fsl c 2 xs none), (5, AVal.int IntKind.i64 (↑(List.length xs) : Int))]) [])
    (h2 : ((↑(List.length xs) : Int) != (↑(List.length xs) : Int)) = false) :
    FOk Try.prog 32 ([AVal.fsl b 2 xs none, AVal.fsl c 2 xs none]) ([]) (AVal.bool true) ([]) :=
  (evalF_ok followed Try.func32 (by kernel_rfl) (show evalF Try.prog Try.f32 ([AVal.fsl b 2 xs none, AVal.fsl c 2 xs none]) ([]) ([Dec.br false, Dec.compact (keepM 26 [0, 1, 5]) [], Dec.loop (AExit.exit 0) (rgM b c xs (↑(List.length xs) : Int)) []]) = .ok (FRes.mk (AVal.bool true) ([]) [Owed.loop (owed Try.prog 0) (loopNo Try.f32 0) (mkR 26 [(0, AVal.fsl b 2 xs none), (1, AVal.fsl c 2 xs none), (5, AVal.int IntKind.i64 0)]) [] (AExit.exit 0) (mkR 26 [(0, AVal.fsl b 2 xs none), (1, AVal.fsl c 2 xs none), (5, AVal.int IntKind.i64 (↑(List.length xs) : Int))]) [],
    ((↑(List.length xs) : Int) != (↑(List.length xs) : Int)) = false]) by kernel_rfl) (allP_of (⟨h1, h2, trivial⟩))).move ([]) (by kernel_rfl) (by kernel_rfl) (by kernel_rfl)


end Go.L06

import Derived.Test.YtpkbeinnflbemaaL06C
set_option linter.unusedVariables false
set_option maxRecDepth 100000
namespace Go.L06
open Go Go.Abs Go.Proofs

theorem cmpA_1 (a : Int) (m : Int) (i : Int) (t : Int) (e : Int) (n : Nat) (n2 : Nat) (rs : List (List AVal)) (rs2 : List (List AVal))
    (h1 : FOk Try.prog 24 [AVal.slc false 0 2 (Int.toNat (IntKind.wrap IntKind.i64 (i - a)) + 0) (Int.toNat (↑n : Int) - Int.toNat (IntKind.wrap IntKind.i64 (i - a))) none] [AObj.rows true 2 rs] (AVal.slc false 1 2 0 n2 none) [AObj.rows true 2 rs, AObj.rows true 2 rs2])
    (h2 : decide (0 ≤ IntKind.wrap IntKind.i64 (i - a) ∧ IntKind.wrap IntKind.i64 (i - a) ≤ (↑n : Int) ∧ (↑n : Int) ≤ (↑n : Int)) = true)
    (h3 : (e == 0) = true)
    (h4 : FOk Try.prog 11 [AVal.ptr 0 4 0 0, AVal.int IntKind.i64 i] [AObj.rows false 4 [[AVal.int IntKind.i64 a, AVal.int IntKind.i64 m, AVal.slc false 1 2 0 n none, AVal.tt true]], AObj.rows true 2 rs] (AVal.tuple [AVal.int IntKind.i64 t, AVal.int IntKind.i64 e]) [AObj.rows false 4 [[AVal.int IntKind.i64 a, AVal.int IntKind.i64 m, AVal.slc false 1 2 0 n none, AVal.tt true]], AObj.rows true 2 rs]) :
    FOk Try.prog 14 ([logP, AVal.int IntKind.i64 i]) (LogO a m false n rs) (AVal.int IntKind.i64 e) ([AObj.rows false 4 [[AVal.int IntKind.i64 i, AVal.int IntKind.i64 t, AVal.slc false 2 2 0 n2 none, AVal.tt true]], AObj.rows true 2 rs, AObj.rows true 2 rs2]) :=
  (evalF_ok followed Try.func14 (by kernel_rfl) (show evalF Try.prog Try.f14 ([logP, AVal.int IntKind.i64 i]) (LogO a m false n rs) ([Dec.use [0, 1] [AVal.ptr 0 4 0 0, AVal.int IntKind.i64 i] [AObj.rows false 4 [[AVal.int IntKind.i64 a, AVal.int IntKind.i64 m, AVal.slc false 1 2 0 n none, AVal.tt true]], AObj.rows true 2 rs] (AVal.tuple [AVal.int IntKind.i64 t, AVal.int IntKind.i64 e]) [AObj.rows false 4 [[AVal.int IntKind.i64 a, AVal.int IntKind.i64 m, AVal.slc false 1 2 0 n none, AVal.tt true]], AObj.rows true 2 rs], Dec.br true, Dec.use [1] [AVal.slc false 0 2 (Int.toNat (IntKind.wrap IntKind.i64 (i - a)) + 0) (Int.toNat (↑n : Int) - Int.toNat (IntKind.wrap IntKind.i64 (i - a))) none] [AObj.rows true 2 rs] (AVal.slc false 1 2 0 n2 none) [AObj.rows true 2 rs, AObj.rows true 2 rs2]]) = .ok (FRes.mk (AVal.int IntKind.i64 e) ([AObj.rows false 4 [[AVal.int IntKind.i64 i, AVal.int IntKind.i64 t, AVal.slc false 2 2 0 n2 none, AVal.tt true]], AObj.rows true 2 rs, AObj.rows true 2 rs2]) [true = true,
    true = true,
    true = true,
    true = true,
    true = true,
    true = true,
    true = true,
    true = true,
    true = true,
    true = true,
    true = true,
    true = true,
    true = true,
    true = true,
    true = true,
    Owed.use (owed Try.prog 2) 24 [1] [AVal.slc false 1 2 (Int.toNat (IntKind.wrap IntKind.i64 (i - a)) + 0) (Int.toNat (↑n : Int) - Int.toNat (IntKind.wrap IntKind.i64 (i - a))) none] [AObj.rows false 4 [[AVal.int IntKind.i64 a, AVal.int IntKind.i64 m, AVal.slc false 1 2 0 n none, AVal.tt true]], AObj.rows true 2 rs] [AVal.slc false 0 2 (Int.toNat (IntKind.wrap IntKind.i64 (i - a)) + 0) (Int.toNat (↑n : Int) - Int.toNat (IntKind.wrap IntKind.i64 (i - a))) none] [AObj.rows true 2 rs] (AVal.slc false 1 2 0 n2 none) [AObj.rows true 2 rs, AObj.rows true 2 rs2],
    true = true,
    true = true,
    decide (0 ≤ IntKind.wrap IntKind.i64 (i - a) ∧ IntKind.wrap IntKind.i64 (i - a) ≤ (↑n : Int) ∧ (↑n : Int) ≤ (↑n : Int)) = true,
    true = true,
    true = true,
    true = true,
    true = true,
    true = true,
    true = true,
    true = true,
    true = true,
    true = true,
    true = true,
    true = true,
    true = true,
    true = true,
    true = true,
    true = true,
    true = true,
    true = true,
    true = true,
    true = true,
    true = true,
    true = true,
    true = true,
    true = true,
    true = true,
    true = true,
    true = true,
    true = true,
    true = true,
    true = true,
    true = true,
    true = true,
    true = true,
    true = true,
    true = true,
    (e == 0) = true,
    Owed.use (owed Try.prog 2) 11 [0, 1] [AVal.ptr 0 4 0 0, AVal.int IntKind.i64 i] [AObj.rows false 4 [[AVal.int IntKind.i64 a, AVal.int IntKind.i64 m, AVal.slc false 1 2 0 n none, AVal.tt true]], AObj.rows true 2 rs] [AVal.ptr 0 4 0 0, AVal.int IntKind.i64 i] [AObj.rows false 4 [[AVal.int IntKind.i64 a, AVal.int IntKind.i64 m, AVal.slc false 1 2 0 n none, AVal.tt true]], AObj.rows true 2 rs] (AVal.tuple [AVal.int IntKind.i64 t, AVal.int IntKind.i64 e]) [AObj.rows false 4 [[AVal.int IntKind.i64 a, AVal.int IntKind.i64 m, AVal.slc false 1 2 0 n none, AVal.tt true]], AObj.rows true 2 rs]]) by kernel_rfl) (allP_of (⟨rfl, rfl, rfl, rfl, rfl, rfl, rfl, rfl, rfl, rfl, rfl, rfl, rfl, rfl, rfl, ⟨h1, rfl, rfl, rfl⟩, rfl, rfl, h2, rfl, rfl, rfl, rfl, rfl, rfl, rfl, rfl, rfl, rfl, rfl, rfl, rfl, rfl, rfl, rfl, rfl, rfl, rfl, rfl, rfl, rfl, rfl, rfl, rfl, rfl, rfl, rfl, rfl, rfl, rfl, rfl, rfl, rfl, h3, ⟨h4, rfl, rfl, rfl⟩, trivial⟩))).move ([0, 1, 2]) (by kernel_rfl) (by kernel_rfl) (by kernel_rfl)

theorem cmpA_2 (a : Int) (m : Int) (i : Int) (t : Int) (e : Int) (n : Nat) (n2 : Nat) (rs : List (List AVal)) (rs2 : List (List AVal))
    (h1 : (e == 0) = false)
    (h2 : FOk Try.prog 11 [AVal.ptr 0 4 0 0, AVal.int IntKind.i64 i] [AObj.rows false 4 [[AVal.int IntKind.i64 a, AVal.int IntKind.i64 m, AVal.slc false 1 2 0 n none, AVal.tt true]], AObj.rows true 2 rs] (AVal.tuple [AVal.int IntKind.i64 t, AVal.int IntKind.i64 e]) [AObj.rows false 4 [[AVal.int IntKind.i64 a, AVal.int IntKind.i64 m, AVal.slc false 1 2 0 n none, AVal.tt true]], AObj.rows true 2 rs]) :
    FOk Try.prog 14 ([logP, AVal.int IntKind.i64 i]) (LogO a m false n rs) (AVal.int IntKind.i64 e) ([AObj.rows false 4 [[AVal.int IntKind.i64 a, AVal.int IntKind.i64 m, AVal.slc false 1 2 0 n none, AVal.tt true]], AObj.rows true 2 rs]) :=
  (evalF_ok followed Try.func14 (by kernel_rfl) (show evalF Try.prog Try.f14 ([logP, AVal.int IntKind.i64 i]) (LogO a m false n rs) ([Dec.use [0, 1] [AVal.ptr 0 4 0 0, AVal.int IntKind.i64 i] [AObj.rows false 4 [[AVal.int IntKind.i64 a, AVal.int IntKind.i64 m, AVal.slc false 1 2 0 n none, AVal.tt true]], AObj.rows true 2 rs] (AVal.tuple [AVal.int IntKind.i64 t, AVal.int IntKind.i64 e]) [AObj.rows false 4 [[AVal.int IntKind.i64 a, AVal.int IntKind.i64 m, AVal.slc false 1 2 0 n none, AVal.tt true]], AObj.rows true 2 rs], Dec.br false]) = .ok (FRes.mk (AVal.int IntKind.i64 e) ([AObj.rows false 4 [[AVal.int IntKind.i64 a, AVal.int IntKind.i64 m, AVal.slc false 1 2 0 n none, AVal.tt true]], AObj.rows true 2 rs]) [(e == 0) = false,
    Owed.use (owed Try.prog 2) 11 [0, 1] [AVal.ptr 0 4 0 0, AVal.int IntKind.i64 i] [AObj.rows false 4 [[AVal.int IntKind.i64 a, AVal.int IntKind.i64 m, AVal.slc false 1 2 0 n none, AVal.tt true]], AObj.rows true 2 rs] [AVal.ptr 0 4 0 0, AVal.int IntKind.i64 i] [AObj.rows false 4 [[AVal.int IntKind.i64 a, AVal.int IntKind.i64 m, AVal.slc false 1 2 0 n none, AVal.tt true]], AObj.rows true 2 rs] (AVal.tuple [AVal.int IntKind.i64 t, AVal.int IntKind.i64 e]) [AObj.rows false 4 [[AVal.int IntKind.i64 a, AVal.int IntKind.i64 m, AVal.slc false 1 2 0 n none, AVal.tt true]], AObj.rows true 2 rs]]) by kernel_rfl) (allP_of (⟨h1, ⟨h2, rfl, rfl, rfl⟩, trivial⟩))).move ([0, 1]) (by kernel_rfl) (by kernel_rfl) (by kernel_rfl)


theorem cmpN_1 (a : Int) (m : Int) (i : Int) (t : Int) (e : Int) (n : Nat) (rs : List (List AVal))
    (h1 : FOk Try.prog 24 [AVal.slc true 0 2 (Int.toNat (IntKind.wrap IntKind.i64 (i - a)) + 0) (Int.toNat (↑n : Int) - Int.toNat (IntKind.wrap IntKind.i64 (i - a))) none] [AObj.rows true 2 rs] (AVal.fsl true 2 [] none) [AObj.rows true 2 rs])
    (h2 : decide (0 ≤ IntKind.wrap IntKind.i64 (i - a) ∧ IntKind.wrap IntKind.i64 (i - a) ≤ (↑n : Int) ∧ (↑n : Int) ≤ (↑n : Int)) = true)
    (h3 : (e == 0) = true)
    (h4 : FOk Try.prog 11 [AVal.ptr 0 4 0 0, AVal.int IntKind.i64 i] [AObj.rows false 4 [[AVal.int IntKind.i64 a, AVal.int IntKind.i64 m, AVal.slc true 1 2 0 n none, AVal.tt true]], AObj.rows true 2 rs] (AVal.tuple [AVal.int IntKind.i64 t, AVal.int IntKind.i64 e]) [AObj.rows false 4 [[AVal.int IntKind.i64 a, AVal.int IntKind.i64 m, AVal.slc true 1 2 0 n none, AVal.tt true]], AObj.rows true 2 rs]) :
    FOk Try.prog 14 ([logP, AVal.int IntKind.i64 i]) (LogO a m true n rs) (AVal.int IntKind.i64 e) ([AObj.rows false 4 [[AVal.int IntKind.i64 i, AVal.int IntKind.i64 t, AVal.fsl true 2 [] none, AVal.tt true]], AObj.rows true 2 rs]) :=
  (evalF_ok followed Try.func14 (by kernel_rfl) (show evalF Try.prog Try.f14 ([logP, AVal.int IntKind.i64 i]) (LogO a m true n rs) ([Dec.use [0, 1] [AVal.ptr 0 4 0 0, AVal.int IntKind.i64 i] [AObj.rows false 4 [[AVal.int IntKind.i64 a, AVal.int IntKind.i64 m, AVal.slc true 1 2 0 n none, AVal.tt true]], AObj.rows true 2 rs] (AVal.tuple [AVal.int IntKind.i64 t, AVal.int IntKind.i64 e]) [AObj.rows false 4 [[AVal.int IntKind.i64 a, AVal.int IntKind.i64 m, AVal.slc true 1 2 0 n none, AVal.tt true]], AObj.rows true 2 rs], Dec.br true, Dec.use [1] [AVal.slc true 0 2 (Int.toNat (IntKind.wrap IntKind.i64 (i - a)) + 0) (Int.toNat (↑n : Int) - Int.toNat (IntKind.wrap IntKind.i64 (i - a))) none] [AObj.rows true 2 rs] (AVal.fsl true 2 [] none) [AObj.rows true 2 rs]]) = .ok (FRes.mk (AVal.int IntKind.i64 e) ([AObj.rows false 4 [[AVal.int IntKind.i64 i, AVal.int IntKind.i64 t, AVal.fsl true 2 [] none, AVal.tt true]], AObj.rows true 2 rs]) [true = true,
    true = true,
    true = true,
    true = true,
    true = true,
    true = true,
    true = true,
    true = true,
    true = true,
    true = true,
    true = true,
    true = true,
    true = true,
    true = true,
    true = true,
    Owed.use (owed Try.prog 2) 24 [1] [AVal.slc true 1 2 (Int.toNat (IntKind.wrap IntKind.i64 (i - a)) + 0) (Int.toNat (↑n : Int) - Int.toNat (IntKind.wrap IntKind.i64 (i - a))) none] [AObj.rows false 4 [[AVal.int IntKind.i64 a, AVal.int IntKind.i64 m, AVal.slc true 1 2 0 n none, AVal.tt true]], AObj.rows true 2 rs] [AVal.slc true 0 2 (Int.toNat (IntKind.wrap IntKind.i64 (i - a)) + 0) (Int.toNat (↑n : Int) - Int.toNat (IntKind.wrap IntKind.i64 (i - a))) none] [AObj.rows true 2 rs] (AVal.fsl true 2 [] none) [AObj.rows true 2 rs],
    true = true,
    true = true,
    decide (0 ≤ IntKind.wrap IntKind.i64 (i - a) ∧ IntKind.wrap IntKind.i64 (i - a) ≤ (↑n : Int) ∧ (↑n : Int) ≤ (↑n : Int)) = true,
    true = true,
    true = true,
    true = true,
    true = true,
    true = true,
    true = true,
    true = true,
    true = true,
    true = true,
    true = true,
    true = true,
    true = true,
    true = true,
    true = true,
    true = true,
    true = true,
    true = true,
    true = true,
    true = true,
    true = true,
    true = true,
    true = true,
    true = true,
    true = true,
    true = true,
    true = true,
    true = true,
    true = true,
    true = true,
    true = true,
    true = true,
    true = true,
    true = true,
    true = true,
    (e == 0) = true,
    Owed.use (owed Try.prog 2) 11 [0, 1] [AVal.ptr 0 4 0 0, AVal.int IntKind.i64 i] [AObj.rows false 4 [[AVal.int IntKind.i64 a, AVal.int IntKind.i64 m, AVal.slc true 1 2 0 n none, AVal.tt true]], AObj.rows true 2 rs] [AVal.ptr 0 4 0 0, AVal.int IntKind.i64 i] [AObj.rows false 4 [[AVal.int IntKind.i64 a, AVal.int IntKind.i64 m, AVal.slc true 1 2 0 n none, AVal.tt true]], AObj.rows true 2 rs] (AVal.tuple [AVal.int IntKind.i64 t, AVal.int IntKind.i64 e]) [AObj.rows false 4 [[AVal.int IntKind.i64 a, AVal.int IntKind.i64 m, AVal.slc true 1 2 0 n none, AVal.tt true]], AObj.rows true 2 rs]]) by kernel_rfl) (allP_of (⟨rfl, rfl, rfl, rfl, rfl, rfl, rfl, rfl, rfl, rfl, rfl, rfl, rfl, rfl, rfl, ⟨h1, rfl, rfl, rfl⟩, rfl, rfl, h2, rfl, rfl, rfl, rfl, rfl, rfl, rfl, rfl, rfl, rfl, rfl, rfl, rfl, rfl, rfl, rfl, rfl, rfl, rfl, rfl, rfl, rfl, rfl, rfl, rfl, rfl, rfl, rfl, rfl, rfl, rfl, rfl, rfl, rfl, h3, ⟨h4, rfl, rfl, rfl⟩, trivial⟩))).move ([0, 1]) (by kernel_rfl) (by kernel_rfl) (by kernel_rfl)

theorem cmpN_2 (a : Int) (m : Int) (i : Int) (t : Int) (e : Int) (n : Nat) (rs : List (List AVal))
    (h1 : (e == 0) = false)
    (h2 : FOk Try.prog 11 [AVal.ptr 0 4 0 0, AVal.int IntKind.i64 i] [AObj.rows false 4 [[AVal.int IntKind.i64 a, AVal.int IntKind.i64 m, AVal.slc true 1 2 0 n none, AVal.tt true]], AObj.rows true 2 rs] (AVal.tuple [AVal.int IntKind.i64 t, AVal.int IntKind.i64 e]) [AObj.rows false 4 [[AVal.int IntKind.i64 a, AVal.int IntKind.i64 m, AVal.slc true 1 2 0 n none, AVal.tt true]], AObj.rows true 2 rs]) :
    FOk Try.prog 14 ([logP, AVal.int IntKind.i64 i]) (LogO a m true n rs) (AVal.int IntKind.i64 e) ([AObj.rows false 4 [[AVal.int IntKind.i64 a, AVal.int IntKind.i64 m, AVal.slc true 1 2 0 n none, AVal.tt true]], AObj.rows true 2 rs]) :=
  (evalF_ok followed Try.func14 (by kernel_rfl) (show evalF Try.prog Try.f14 ([logP, AVal.int IntKind.i64 i]) (LogO a m true n rs) ([Dec.use [0, 1] [AVal.ptr 0 4 0 0, AVal.int IntKind.i64 i] [AObj.rows false 4 [[AVal.int IntKind.i64 a, AVal.int IntKind.i64 m, AVal.slc true 1 2 0 n none, AVal.tt true]], AObj.rows true 2 rs] (AVal.tuple [AVal.int IntKind.i64 t, AVal.int IntKind.i64 e]) [AObj.rows false 4 [[AVal.int IntKind.i64 a, AVal.int IntKind.i64 m, AVal.slc true 1 2 0 n none, AVal.tt true]], AObj.rows true 2 rs], Dec.br false]) = .ok (FRes.mk (AVal.int IntKind.i64 e) ([AObj.rows false 4 [[AVal.int IntKind.i64 a, AVal.int IntKind.i64 m, AVal.slc true 1 2 0 n none, AVal.tt true]], AObj.rows true 2 rs]) [(e == 0) = false,
    Owed.use (owed Try.prog 2) 11 [0, 1] [AVal.ptr 0 4 0 0, AVal.int IntKind.i64 i] [AObj.rows false 4 [[AVal.int IntKind.i64 a, AVal.int IntKind.i64 m, AVal.slc true 1 2 0 n none, AVal.tt true]], AObj.rows true 2 rs] [AVal.ptr 0 4 0 0, AVal.int IntKind.i64 i] [AObj.rows false 4 [[AVal.int IntKind.i64 a, AVal.int IntKind.i64 m, AVal.slc true 1 2 0 n none, AVal.tt true]], AObj.rows true 2 rs] (AVal.tuple [AVal.int IntKind.i64 t, AVal.int IntKind.i64 e]) [AObj.rows false 4 [[AVal.int IntKind.i64 a, AVal.int IntKind.i64 m, AVal.slc true 1 2 0 n none, AVal.tt true]], AObj.rows true 2 rs]]) by kernel_rfl) (allP_of (⟨h1, ⟨h2, rfl, rfl, rfl⟩, trivial⟩))).move ([0, 1]) (by kernel_rfl) (by kernel_rfl) (by kernel_rfl)



end Go.L06

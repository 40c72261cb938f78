import Derived.Test.YtpfnoilcmoaplaaL11C
set_option linter.unusedVariables false
set_option maxRecDepth 100000
namespace Go.L11
open Go Go.Abs Go.Proofs

abbrev repS (e a : Int) (b : Bool) (id n : Nat) : AVal := .agg [.int .i64 e, .int .i64 a, .slc b id 2 0 n none]
theorem cl2_1 (b : Bool) (rs : List (List AVal))
    (h1 : b = true) :
    FOk Try.prog 29 ([AVal.slc b 0 2 0 (List.length rs) none]) ([AObj.rows true 2 rs]) (AVal.fsl true 2 [] none) ([AObj.rows true 2 rs]) :=
  (evalF_ok followed Try.func29 (by kernel_rfl) (show evalF Try.prog Try.f29 ([AVal.slc b 0 2 0 (List.length rs) none]) ([AObj.rows true 2 rs]) ([Dec.br true]) = .ok (FRes.mk (AVal.fsl true 2 [] none) ([AObj.rows true 2 rs]) ((b = true) :: [])) by kernel_rfl) (allP_of ⟨h1, trivial⟩)).move ([0]) (by kernel_rfl) (by kernel_rfl) (by kernel_rfl)

theorem cl2_2 (b : Bool) (rs : List (List AVal))
    (h1 : decide ((0 + List.length (List.take (List.length rs) rs)) * 32 ≤ 140737488355328 ∧ 0 + List.length (List.take (List.length rs) rs) ≤ 9223372036854775807) = true)
    (h2 : decide (0 + List.length rs ≤ List.length rs) = true)
    (h3 : (List.all (List.take (List.length rs) rs) fun r => List.all r oneCell) = true)
    (h4 : b = false) :
    FOk Try.prog 29 ([AVal.slc b 0 2 0 (List.length rs) none]) ([AObj.rows true 2 rs]) (AVal.slc false 1 2 0 (0 + List.length (List.take (List.length rs) rs)) none) ([AObj.rows true 2 rs, AObj.rows true 2 ([] ++ List.take (List.length rs) rs)]) :=
  (evalF_ok followed Try.func29 (by kernel_rfl) (show evalF Try.prog Try.f29 ([AVal.slc b 0 2 0 (List.length rs) none]) ([AObj.rows true 2 rs]) ([Dec.br false]) = .ok (FRes.mk (AVal.slc false 2 2 0 (0 + List.length (List.take (List.length rs) rs)) none) ([AObj.rows true 2 rs, AObj.dead, AObj.rows true 2 ([] ++ List.take (List.length rs) rs)]) (tr 1 ++ ((decide ((0 + List.length (List.take (List.length rs) rs)) * 32 ≤ 140737488355328 ∧ 0 + List.length (List.take (List.length rs) rs) ≤ 9223372036854775807) = true) :: ((decide (0 + List.length rs ≤ List.length rs) = true) :: (((List.all (List.take (List.length rs) rs) fun r => List.all r oneCell) = true) :: ((b = false) :: [])))))) by kernel_rfl) (allP_of (trC 1 ⟨h1, ⟨h2, ⟨h3, ⟨h4, trivial⟩⟩⟩⟩))).move ([0, 2]) (by kernel_rfl) (by kernel_rfl) (by kernel_rfl)

def cl2_T (b : Bool) (rs : List (List AVal)) (Q : AVal → AState → Prop) : Prop := ((b = true) → Q (AVal.fsl true 2 [] none) ([AObj.rows true 2 rs])) ∧ ((b = false) → ((List.all (List.take (List.length rs) rs) fun r => List.all r oneCell) = true) ∧ (decide (0 + List.length rs ≤ List.length rs) = true) ∧ (decide ((0 + List.length (List.take (List.length rs) rs)) * 32 ≤ 140737488355328 ∧ 0 + List.length (List.take (List.length rs) rs) ≤ 9223372036854775807) = true) ∧ Q (AVal.slc false 1 2 0 (0 + List.length (List.take (List.length rs) rs)) none) ([AObj.rows true 2 rs, AObj.rows true 2 ([] ++ List.take (List.length rs) rs)]))
theorem cl2_wp (b : Bool) (rs : List (List AVal)) {Q : AVal → AState → Prop} (h : cl2_T b rs Q) : ∃ r σ', FOk Try.prog 29 ([AVal.slc b 0 2 0 (List.length rs) none]) ([AObj.rows true 2 rs]) r σ' ∧ Q r σ' :=
  brE (fun (c0 : b = true) => ⟨_, _, cl2_1 b rs (c0), (h.1 c0)⟩) (fun (c0 : b = false) => ⟨_, _, cl2_2 b rs ((h.2 c0).2.2.1) ((h.2 c0).2.1) ((h.2 c0).1) (c0), (h.2 c0).2.2.2⟩)


theorem own2_1 (e : Int) (a : Int) (b : Bool) (rs : List (List AVal))
    (h1 : FOk Try.prog 29 [AVal.slc b 0 2 0 (List.length rs) none] [AObj.rows true 2 rs] (AVal.fsl b 2 rs none) [AObj.rows true 2 rs]) :
    FOk Try.prog 22 ([repS e a b 0 (List.length rs)]) ([AObj.rows true 2 rs]) (AVal.agg [AVal.int IntKind.i64 e, AVal.int IntKind.i64 a, AVal.fsl b 2 rs none]) ([AObj.rows true 2 rs]) :=
  (evalF_ok followed Try.func22 (by kernel_rfl) (show evalF Try.prog Try.f22 ([repS e a b 0 (List.length rs)]) ([AObj.rows true 2 rs]) ([Dec.use [0] [AVal.slc b 0 2 0 (List.length rs) none] [AObj.rows true 2 rs] (AVal.fsl b 2 rs none) [AObj.rows true 2 rs]]) = .ok (FRes.mk (AVal.agg [AVal.int IntKind.i64 e, AVal.int IntKind.i64 a, AVal.fsl b 2 rs none]) ([AObj.rows true 2 rs, AObj.rows false 3 [[AVal.int IntKind.i64 e, AVal.int IntKind.i64 a, AVal.fsl b 2 rs none]], AObj.rows false 3 [[AVal.int IntKind.i64 e, AVal.int IntKind.i64 a, AVal.fsl b 2 rs none]]]) (tr 8 ++ ((Owed.use (owed Try.prog 1) 29 [0] [AVal.slc b 0 2 0 (List.length rs) none] [AObj.rows true 2 rs, AObj.rows false 3 [[AVal.int IntKind.i64 e, AVal.int IntKind.i64 a, AVal.slc b 0 2 0 (List.length rs) none]], AObj.rows false 3 [[AVal.int IntKind.i64 0, AVal.int IntKind.i64 0, AVal.fsl true 0 [] (some 0)]]] [AVal.slc b 0 2 0 (List.length rs) none] [AObj.rows true 2 rs] (AVal.fsl b 2 rs none) [AObj.rows true 2 rs]) :: (tr 2 ++ [])))) by kernel_rfl) (allP_of (trC 8 ⟨⟨h1, rfl, rfl, rfl⟩, (trC 2 trivial)⟩))).move ([0]) (by kernel_rfl) (by kernel_rfl) (by kernel_rfl)

def own2_T (e : Int) (a : Int) (b : Bool) (rs : List (List AVal)) (Q : AVal → AState → Prop) : Prop := (FOk Try.prog 29 [AVal.slc b 0 2 0 (List.length rs) none] [AObj.rows true 2 rs] (AVal.fsl b 2 rs none) [AObj.rows true 2 rs]) ∧ Q (AVal.agg [AVal.int IntKind.i64 e, AVal.int IntKind.i64 a, AVal.fsl b 2 rs none]) ([AObj.rows true 2 rs])
theorem own2_wp (e : Int) (a : Int) (b : Bool) (rs : List (List AVal)) {Q : AVal → AState → Prop} (h : own2_T e a b rs Q) : ∃ r σ', FOk Try.prog 22 ([repS e a b 0 (List.length rs)]) ([AObj.rows true 2 rs]) r σ' ∧ Q r σ' :=
  ⟨_, _, own2_1 e a b rs (h.1), h.2⟩


theorem cl3_1 (b : Bool) (rs : List (List AVal))
    (h1 : b = true) :
    FOk Try.prog 29 ([AVal.fsl b 2 rs none]) ([]) (AVal.fsl true 2 [] none) ([]) :=
  (evalF_ok followed Try.func29 (by kernel_rfl) (show evalF Try.prog Try.f29 ([AVal.fsl b 2 rs none]) ([]) ([Dec.br true]) = .ok (FRes.mk (AVal.fsl true 2 [] none) ([]) ((b = true) :: [])) by kernel_rfl) (allP_of ⟨h1, trivial⟩)).move ([]) (by kernel_rfl) (by kernel_rfl) (by kernel_rfl)

theorem cl3_2 (b : Bool) (rs : List (List AVal))
    (h1 : decide ((0 + List.length rs) * 32 ≤ 140737488355328 ∧ 0 + List.length rs ≤ 9223372036854775807) = true)
    (h2 : (List.all rs fun r => List.all r oneCell) = true)
    (h3 : b = false) :
    FOk Try.prog 29 ([AVal.fsl b 2 rs none]) ([]) (AVal.slc false 0 2 0 (0 + List.length rs) none) ([AObj.rows true 2 rs]) :=
  (evalF_ok followed Try.func29 (by kernel_rfl) (show evalF Try.prog Try.f29 ([AVal.fsl b 2 rs none]) ([]) ([Dec.br false]) = .ok (FRes.mk (AVal.slc false 1 2 0 (0 + List.length rs) none) ([AObj.dead, AObj.rows true 2 rs]) (tr 1 ++ ((decide ((0 + List.length rs) * 32 ≤ 140737488355328 ∧ 0 + List.length rs ≤ 9223372036854775807) = true) :: (((List.all rs fun r => List.all r oneCell) = true) :: ((b = false) :: []))))) by kernel_rfl) (allP_of (trC 1 ⟨h1, ⟨h2, ⟨h3, trivial⟩⟩⟩))).move ([1]) (by kernel_rfl) (by kernel_rfl) (by kernel_rfl)

def cl3_T (b : Bool) (rs : List (List AVal)) (Q : AVal → AState → Prop) : Prop := ((b = true) → Q (AVal.fsl true 2 [] none) ([])) ∧ ((b = false) → ((List.all rs fun r => List.all r oneCell) = true) ∧ (decide ((0 + List.length rs) * 32 ≤ 140737488355328 ∧ 0 + List.length rs ≤ 9223372036854775807) = true) ∧ Q (AVal.slc false 0 2 0 (0 + List.length rs) none) ([AObj.rows true 2 rs]))
theorem cl3_wp (b : Bool) (rs : List (List AVal)) {Q : AVal → AState → Prop} (h : cl3_T b rs Q) : ∃ r σ', FOk Try.prog 29 ([AVal.fsl b 2 rs none]) ([]) r σ' ∧ Q r σ' :=
  brE (fun (c0 : b = true) => ⟨_, _, cl3_1 b rs (c0), (h.1 c0)⟩) (fun (c0 : b = false) => ⟨_, _, cl3_2 b rs ((h.2 c0).2.1) ((h.2 c0).1) (c0), (h.2 c0).2.2⟩)


theorem own3_1 (e : Int) (a : Int) (b : Bool) (rs : List (List AVal))
    (h1 : FOk Try.prog 29 [AVal.fsl b 2 rs none] [] (AVal.slc b 0 2 0 (List.length rs) none) [AObj.rows true 2 rs]) :
    FOk Try.prog 22 ([rep e a b rs]) ([]) (AVal.agg [AVal.int IntKind.i64 e, AVal.int IntKind.i64 a, AVal.slc b 0 2 0 (List.length rs) none]) ([AObj.rows true 2 rs]) :=
  (evalF_ok followed Try.func22 (by kernel_rfl) (show evalF Try.prog Try.f22 ([rep e a b rs]) ([]) ([Dec.use [] [AVal.fsl b 2 rs none] [] (AVal.slc b 0 2 0 (List.length rs) none) [AObj.rows true 2 rs]]) = .ok (FRes.mk (AVal.agg [AVal.int IntKind.i64 e, AVal.int IntKind.i64 a, AVal.slc b 2 2 0 (List.length rs) none]) ([AObj.rows false 3 [[AVal.int IntKind.i64 e, AVal.int IntKind.i64 a, AVal.slc b 2 2 0 (List.length rs) none]], AObj.rows false 3 [[AVal.int IntKind.i64 e, AVal.int IntKind.i64 a, AVal.slc b 2 2 0 (List.length rs) none]], AObj.rows true 2 rs]) (tr 8 ++ ((Owed.use (owed Try.prog 0) 29 [] [AVal.fsl b 2 rs none] [AObj.rows false 3 [[AVal.int IntKind.i64 e, AVal.int IntKind.i64 a, AVal.fsl b 2 rs none]], AObj.rows false 3 [[AVal.int IntKind.i64 0, AVal.int IntKind.i64 0, AVal.fsl true 0 [] (some 0)]]] [AVal.fsl b 2 rs none] [] (AVal.slc b 0 2 0 (List.length rs) none) [AObj.rows true 2 rs]) :: (tr 2 ++ [])))) by kernel_rfl) (allP_of (trC 8 ⟨⟨h1, rfl, rfl, rfl⟩, (trC 2 trivial)⟩))).move ([2]) (by kernel_rfl) (by kernel_rfl) (by kernel_rfl)

def own3_T (e : Int) (a : Int) (b : Bool) (rs : List (List AVal)) (Q : AVal → AState → Prop) : Prop := (FOk Try.prog 29 [AVal.fsl b 2 rs none] [] (AVal.slc b 0 2 0 (List.length rs) none) [AObj.rows true 2 rs]) ∧ Q (AVal.agg [AVal.int IntKind.i64 e, AVal.int IntKind.i64 a, AVal.slc b 0 2 0 (List.length rs) none]) ([AObj.rows true 2 rs])
theorem own3_wp (e : Int) (a : Int) (b : Bool) (rs : List (List AVal)) {Q : AVal → AState → Prop} (h : own3_T e a b rs Q) : ∃ r σ', FOk Try.prog 22 ([rep e a b rs]) ([]) r σ' ∧ Q r σ' :=
  ⟨_, _, own3_1 e a b rs (h.1), h.2⟩


end Go.L11

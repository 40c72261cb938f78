import Derived.Test.YtchomggcjicokaaL10O
set_option linter.unusedVariables false
set_option maxRecDepth 100000
namespace Go.L10
open Go Go.Abs Go.Proofs

abbrev B0 : AObj := .trows 67 false 2 [[.nilp, .fsl true 0 [] (some 0)]]
abbrev BL (bs : List (List AVal)) : AState := [.rows false 2 [[.ptr 0 2 0 0, .slc false 1 1 0 bs.length none]], .trows 5 true 1 bs]
theorem ws0_1 (s : ByteArray)
    (h1 : decide (List.length (byteRows s) * 1 ≤ 140737488355328 ∧ List.length (byteRows s) ≤ 9223372036854775807) = true) :
    FOk Try.prog 24 ([AVal.ptr 0 2 0 0, AVal.str s]) ([AObj.trows 67 false 2 [[AVal.nilp, AVal.fsl true 0 [] (some 0)]]]) (AVal.tuple [AVal.int IntKind.i64 (↑(ByteArray.size s) : Int), AVal.nili]) ([AObj.rows false 2 [[AVal.ptr 0 2 0 0, AVal.slc (List.isEmpty (byteRows s)) 1 1 0 (List.length (byteRows s)) none]], AObj.trows 5 true 1 (Src.rs (Abs.Src.mk (byteRows s) true []))]) :=
  (evalF_ok followed Try.func24 (by kernel_rfl) (show evalF Try.prog Try.f24 ([AVal.ptr 0 2 0 0, AVal.str s]) ([AObj.trows 67 false 2 [[AVal.nilp, AVal.fsl true 0 [] (some 0)]]]) ([Dec.use [0] [AVal.ptr 0 2 0 0] [AObj.trows 67 false 2 [[AVal.nilp, AVal.fsl true 0 [] (some 0)]]] (AVal.tuple []) [AObj.rows false 2 [[AVal.ptr 0 2 0 0, AVal.fsl true 0 [] (some 0)]]]]) = .ok (FRes.mk (AVal.tuple [AVal.int IntKind.i64 (↑(ByteArray.size s) : Int), AVal.nili]) ([AObj.rows false 2 [[AVal.ptr 0 2 0 0, AVal.slc (List.isEmpty (byteRows s)) 1 1 0 (List.length (byteRows s)) none]], AObj.trows 5 true 1 (Src.rs (Abs.Src.mk (byteRows s) true []))]) (tr 2 ++ ((decide (List.length (byteRows s) * 1 ≤ 140737488355328 ∧ List.length (byteRows s) ≤ 9223372036854775807) = true) :: (tr 2 ++ ((Owed.use (owed Try.prog 1) 32 [0] [AVal.ptr 0 2 0 0] [AObj.trows 67 false 2 [[AVal.nilp, AVal.fsl true 0 [] (some 0)]]] [AVal.ptr 0 2 0 0] [AObj.trows 67 false 2 [[AVal.nilp, AVal.fsl true 0 [] (some 0)]]] (AVal.tuple []) [AObj.rows false 2 [[AVal.ptr 0 2 0 0, AVal.fsl true 0 [] (some 0)]]]) :: []))))) by kernel_rfl) (allP_of (trC 2 ⟨h1, (trC 2 ⟨⟨(@Go.L10.chk0_1), rfl, rfl, rfl⟩, trivial⟩)⟩))).move ([0, 1]) (by kernel_rfl) (by kernel_rfl) (by kernel_rfl)

def ws0_T (s : ByteArray) (Q : AVal → AState → Prop) : Prop := (decide (List.length (byteRows s) * 1 ≤ 140737488355328 ∧ List.length (byteRows s) ≤ 9223372036854775807) = true) ∧ Q (AVal.tuple [AVal.int IntKind.i64 (↑(ByteArray.size s) : Int), AVal.nili]) ([AObj.rows false 2 [[AVal.ptr 0 2 0 0, AVal.slc (List.isEmpty (byteRows s)) 1 1 0 (List.length (byteRows s)) none]], AObj.trows 5 true 1 (Src.rs (Abs.Src.mk (byteRows s) true []))])
theorem ws0_wp (s : ByteArray) {Q : AVal → AState → Prop} (h : ws0_T s Q) : ∃ r σ', FOk Try.prog 24 ([AVal.ptr 0 2 0 0, AVal.str s]) ([AObj.trows 67 false 2 [[AVal.nilp, AVal.fsl true 0 [] (some 0)]]]) r σ' ∧ Q r σ' :=
  ⟨_, _, ws0_1 s (h.1), h.2⟩


theorem ws1_1 (s : ByteArray) (bs : List (List AVal))
    (h1 : decide ((List.length bs + List.length (byteRows s)) * 1 ≤ 140737488355328 ∧ List.length bs + List.length (byteRows s) ≤ 9223372036854775807) = true) :
    FOk Try.prog 24 ([AVal.ptr 0 2 0 0, AVal.str s]) ([AObj.rows false 2 [[AVal.ptr 0 2 0 0, AVal.slc false 1 1 0 (List.length bs) none]], AObj.trows 5 true 1 bs]) (AVal.tuple [AVal.int IntKind.i64 (↑(ByteArray.size s) : Int), AVal.nili]) ([AObj.rows false 2 [[AVal.ptr 0 2 0 0, AVal.slc false 2 1 0 (List.length bs + List.length (byteRows s)) none]], AObj.dead, AObj.trows 5 true 1 (bs ++ byteRows s)]) :=
  (evalF_ok followed Try.func24 (by kernel_rfl) (show evalF Try.prog Try.f24 ([AVal.ptr 0 2 0 0, AVal.str s]) ([AObj.rows false 2 [[AVal.ptr 0 2 0 0, AVal.slc false 1 1 0 (List.length bs) none]], AObj.trows 5 true 1 bs]) ([Dec.use [0, 1] [AVal.ptr 0 2 0 0] [AObj.rows false 2 [[AVal.ptr 0 2 0 0, AVal.slc false 1 1 0 (List.length bs) none]], AObj.trows 5 true 1 bs] (AVal.tuple []) [AObj.rows false 2 [[AVal.ptr 0 2 0 0, AVal.slc false 1 1 0 (List.length bs) none]], AObj.trows 5 true 1 bs]]) = .ok (FRes.mk (AVal.tuple [AVal.int IntKind.i64 (↑(ByteArray.size s) : Int), AVal.nili]) ([AObj.rows false 2 [[AVal.ptr 0 2 0 0, AVal.slc false 2 1 0 (List.length bs + List.length (byteRows s)) none]], AObj.dead, AObj.trows 5 true 1 (bs ++ byteRows s)]) (tr 2 ++ ((decide (List.length bs = List.length bs) = true) :: ((decide ((List.length bs + List.length (byteRows s)) * 1 ≤ 140737488355328 ∧ List.length bs + List.length (byteRows s) ≤ 9223372036854775807) = true) :: (tr 2 ++ ((Owed.use (owed Try.prog 2) 32 [0, 1] [AVal.ptr 0 2 0 0] [AObj.rows false 2 [[AVal.ptr 0 2 0 0, AVal.slc false 1 1 0 (List.length bs) none]], AObj.trows 5 true 1 bs] [AVal.ptr 0 2 0 0] [AObj.rows false 2 [[AVal.ptr 0 2 0 0, AVal.slc false 1 1 0 (List.length bs) none]], AObj.trows 5 true 1 bs] (AVal.tuple []) [AObj.rows false 2 [[AVal.ptr 0 2 0 0, AVal.slc false 1 1 0 (List.length bs) none]], AObj.trows 5 true 1 bs]) :: [])))))) by kernel_rfl) (allP_of (trC 2 ⟨decide_eq_true rfl, ⟨h1, (trC 2 ⟨⟨(@Go.L10.chk1_1 (bs)), rfl, rfl, rfl⟩, trivial⟩)⟩⟩))).move ([0, 1, 2]) (by kernel_rfl) (by kernel_rfl) (by kernel_rfl)

def ws1_T (s : ByteArray) (bs : List (List AVal)) (Q : AVal → AState → Prop) : Prop := (decide ((List.length bs + List.length (byteRows s)) * 1 ≤ 140737488355328 ∧ List.length bs + List.length (byteRows s) ≤ 9223372036854775807) = true) ∧ Q (AVal.tuple [AVal.int IntKind.i64 (↑(ByteArray.size s) : Int), AVal.nili]) ([AObj.rows false 2 [[AVal.ptr 0 2 0 0, AVal.slc false 2 1 0 (List.length bs + List.length (byteRows s)) none]], AObj.dead, AObj.trows 5 true 1 (bs ++ byteRows s)])
theorem ws1_wp (s : ByteArray) (bs : List (List AVal)) {Q : AVal → AState → Prop} (h : ws1_T s bs Q) : ∃ r σ', FOk Try.prog 24 ([AVal.ptr 0 2 0 0, AVal.str s]) ([AObj.rows false 2 [[AVal.ptr 0 2 0 0, AVal.slc false 1 1 0 (List.length bs) none]], AObj.trows 5 true 1 bs]) r σ' ∧ Q r σ' :=
  ⟨_, _, ws1_1 s bs (h.1), h.2⟩


theorem wb1_1 (c : Int) (bs : List (List AVal))
    (h1 : decide ((List.length bs + 1) * 1 ≤ 140737488355328 ∧ List.length bs + 1 ≤ 9223372036854775807) = true) :
    FOk Try.prog 26 ([AVal.ptr 0 2 0 0, AVal.int IntKind.u8 c]) ([AObj.rows false 2 [[AVal.ptr 0 2 0 0, AVal.slc false 1 1 0 (List.length bs) none]], AObj.trows 5 true 1 bs]) (AVal.nili) ([AObj.rows false 2 [[AVal.ptr 0 2 0 0, AVal.slc false 2 1 0 (List.length bs + 1) none]], AObj.dead, AObj.trows 5 true 1 (bs ++ [[AVal.int IntKind.u8 c]])]) :=
  (evalF_ok followed Try.func26 (by kernel_rfl) (show evalF Try.prog Try.f26 ([AVal.ptr 0 2 0 0, AVal.int IntKind.u8 c]) ([AObj.rows false 2 [[AVal.ptr 0 2 0 0, AVal.slc false 1 1 0 (List.length bs) none]], AObj.trows 5 true 1 bs]) ([Dec.use [0, 1] [AVal.ptr 0 2 0 0] [AObj.rows false 2 [[AVal.ptr 0 2 0 0, AVal.slc false 1 1 0 (List.length bs) none]], AObj.trows 5 true 1 bs] (AVal.tuple []) [AObj.rows false 2 [[AVal.ptr 0 2 0 0, AVal.slc false 1 1 0 (List.length bs) none]], AObj.trows 5 true 1 bs]]) = .ok (FRes.mk (AVal.nili) ([AObj.rows false 2 [[AVal.ptr 0 2 0 0, AVal.slc false 3 1 0 (List.length bs + 1) none]], AObj.dead, AObj.rows true 1 [[AVal.int IntKind.u8 c]], AObj.trows 5 true 1 (bs ++ [[AVal.int IntKind.u8 c]])]) (tr 2 ++ ((decide (List.length bs = List.length bs) = true) :: ((decide ((List.length bs + 1) * 1 ≤ 140737488355328 ∧ List.length bs + 1 ≤ 9223372036854775807) = true) :: (tr 4 ++ ((Owed.use (owed Try.prog 2) 32 [0, 1] [AVal.ptr 0 2 0 0] [AObj.rows false 2 [[AVal.ptr 0 2 0 0, AVal.slc false 1 1 0 (List.length bs) none]], AObj.trows 5 true 1 bs] [AVal.ptr 0 2 0 0] [AObj.rows false 2 [[AVal.ptr 0 2 0 0, AVal.slc false 1 1 0 (List.length bs) none]], AObj.trows 5 true 1 bs] (AVal.tuple []) [AObj.rows false 2 [[AVal.ptr 0 2 0 0, AVal.slc false 1 1 0 (List.length bs) none]], AObj.trows 5 true 1 bs]) :: [])))))) by kernel_rfl) (allP_of (trC 2 ⟨decide_eq_true rfl, ⟨h1, (trC 4 ⟨⟨(@Go.L10.chk1_1 (bs)), rfl, rfl, rfl⟩, trivial⟩)⟩⟩))).move ([0, 1, 3]) (by kernel_rfl) (by kernel_rfl) (by kernel_rfl)

def wb1_T (c : Int) (bs : List (List AVal)) (Q : AVal → AState → Prop) : Prop := (decide ((List.length bs + 1) * 1 ≤ 140737488355328 ∧ List.length bs + 1 ≤ 9223372036854775807) = true) ∧ Q (AVal.nili) ([AObj.rows false 2 [[AVal.ptr 0 2 0 0, AVal.slc false 2 1 0 (List.length bs + 1) none]], AObj.dead, AObj.trows 5 true 1 (bs ++ [[AVal.int IntKind.u8 c]])])
theorem wb1_wp (c : Int) (bs : List (List AVal)) {Q : AVal → AState → Prop} (h : wb1_T c bs Q) : ∃ r σ', FOk Try.prog 26 ([AVal.ptr 0 2 0 0, AVal.int IntKind.u8 c]) ([AObj.rows false 2 [[AVal.ptr 0 2 0 0, AVal.slc false 1 1 0 (List.length bs) none]], AObj.trows 5 true 1 bs]) r σ' ∧ Q r σ' :=
  ⟨_, _, wb1_1 c bs (h.1), h.2⟩


theorem bst_1 (bs : List (List AVal))
    (h1 : decide (0 < (↑(List.length bs) : Int) ∧ (↑(List.length bs) : Int) ≤ (↑(List.length bs) : Int) ∧ (↑(List.length bs) : Int) ≤ 9223372036854775807) = true)
    (h2 : List.all (List.take (Int.toNat (↑(List.length bs) : Int)) bs) u8Row = true)
    (h3 : decide (0 < List.length bs) = true) :
    FOk Try.prog 27 ([AVal.ptr 0 2 0 0]) ([AObj.rows false 2 [[AVal.ptr 0 2 0 0, AVal.slc false 1 1 0 (List.length bs) none]], AObj.trows 5 true 1 bs]) (AVal.str (rowBytes (List.take (Int.toNat (↑(List.length bs) : Int)) bs))) ([AObj.rows false 2 [[AVal.ptr 0 2 0 0, AVal.slc false 1 1 0 (List.length bs) none]], AObj.dead]) :=
  (evalF_ok followed Try.func27 (by kernel_rfl) (show evalF Try.prog Try.f27 ([AVal.ptr 0 2 0 0]) ([AObj.rows false 2 [[AVal.ptr 0 2 0 0, AVal.slc false 1 1 0 (List.length bs) none]], AObj.trows 5 true 1 bs]) ([]) = .ok (FRes.mk (AVal.str (rowBytes (List.take (Int.toNat (↑(List.length bs) : Int)) bs))) ([AObj.rows false 2 [[AVal.ptr 0 2 0 0, AVal.slc false 1 1 0 (List.length bs) none]], AObj.dead]) (tr 4 ++ ((decide (0 < (↑(List.length bs) : Int) ∧ (↑(List.length bs) : Int) ≤ (↑(List.length bs) : Int) ∧ (↑(List.length bs) : Int) ≤ 9223372036854775807) = true) :: ((List.all (List.take (Int.toNat (↑(List.length bs) : Int)) bs) u8Row = true) :: (tr 24 ++ ((decide (0 < List.length bs) = true) :: (tr 11 ++ []))))))) by kernel_rfl) (allP_of (trC 4 ⟨h1, ⟨h2, (trC 24 ⟨h3, (trC 11 trivial)⟩)⟩⟩))).move ([0, 1]) (by kernel_rfl) (by kernel_rfl) (by kernel_rfl)

def bst_T (bs : List (List AVal)) (Q : AVal → AState → Prop) : Prop := (decide (0 < List.length bs) = true) ∧ (List.all (List.take (Int.toNat (↑(List.length bs) : Int)) bs) u8Row = true) ∧ (decide (0 < (↑(List.length bs) : Int) ∧ (↑(List.length bs) : Int) ≤ (↑(List.length bs) : Int) ∧ (↑(List.length bs) : Int) ≤ 9223372036854775807) = true) ∧ Q (AVal.str (rowBytes (List.take (Int.toNat (↑(List.length bs) : Int)) bs))) ([AObj.rows false 2 [[AVal.ptr 0 2 0 0, AVal.slc false 1 1 0 (List.length bs) none]], AObj.dead])
theorem bst_wp (bs : List (List AVal)) {Q : AVal → AState → Prop} (h : bst_T bs Q) : ∃ r σ', FOk Try.prog 27 ([AVal.ptr 0 2 0 0]) ([AObj.rows false 2 [[AVal.ptr 0 2 0 0, AVal.slc false 1 1 0 (List.length bs) none]], AObj.trows 5 true 1 bs]) r σ' ∧ Q r σ' :=
  ⟨_, _, bst_1 bs (h.2.2.1) (h.2.1) (h.1), h.2.2.2⟩


theorem shp_1 (s : ByteArray) (p : ByteArray)
    (h1 : decide (0 ≤ (↑0 : Int) ∧ (↑0 : Int) ≤ (↑(ByteArray.size p) : Int) ∧ (↑(ByteArray.size p) : Int) ≤ (↑(ByteArray.size s) : Int)) = true)
    (h2 : decide ((↑(ByteArray.size s) : Int) ≥ (↑(ByteArray.size p) : Int)) = true) :
    FOk Try.prog 33 ([AVal.str s, AVal.str p]) ([]) (AVal.bool (ByteArray.toList (ByteArray.extract s 0 (Int.toNat (↑(ByteArray.size p) : Int))) == ByteArray.toList p)) ([]) :=
  (evalF_ok followed Try.func33 (by kernel_rfl) (show evalF Try.prog Try.f33 ([AVal.str s, AVal.str p]) ([]) ([Dec.br true]) = .ok (FRes.mk (AVal.bool (ByteArray.toList (ByteArray.extract s 0 (Int.toNat (↑(ByteArray.size p) : Int))) == ByteArray.toList p)) ([]) ((decide (0 ≤ (↑0 : Int) ∧ (↑0 : Int) ≤ (↑(ByteArray.size p) : Int) ∧ (↑(ByteArray.size p) : Int) ≤ (↑(ByteArray.size s) : Int)) = true) :: ((decide ((↑(ByteArray.size s) : Int) ≥ (↑(ByteArray.size p) : Int)) = true) :: []))) by kernel_rfl) (allP_of ⟨h1, ⟨h2, trivial⟩⟩)).move ([]) (by kernel_rfl) (by kernel_rfl) (by kernel_rfl)

theorem shp_2 (s : ByteArray) (p : ByteArray)
    (h1 : decide ((↑(ByteArray.size s) : Int) ≥ (↑(ByteArray.size p) : Int)) = false) :
    FOk Try.prog 33 ([AVal.str s, AVal.str p]) ([]) (AVal.bool false) ([]) :=
  (evalF_ok followed Try.func33 (by kernel_rfl) (show evalF Try.prog Try.f33 ([AVal.str s, AVal.str p]) ([]) ([Dec.br false]) = .ok (FRes.mk (AVal.bool false) ([]) ((decide ((↑(ByteArray.size s) : Int) ≥ (↑(ByteArray.size p) : Int)) = false) :: [])) by kernel_rfl) (allP_of ⟨h1, trivial⟩)).move ([]) (by kernel_rfl) (by kernel_rfl) (by kernel_rfl)

def shp_T (s : ByteArray) (p : ByteArray) (Q : AVal → AState → Prop) : Prop := ((decide ((↑(ByteArray.size s) : Int) ≥ (↑(ByteArray.size p) : Int)) = true) → (decide (0 ≤ (↑0 : Int) ∧ (↑0 : Int) ≤ (↑(ByteArray.size p) : Int) ∧ (↑(ByteArray.size p) : Int) ≤ (↑(ByteArray.size s) : Int)) = true) ∧ Q (AVal.bool (ByteArray.toList (ByteArray.extract s 0 (Int.toNat (↑(ByteArray.size p) : Int))) == ByteArray.toList p)) ([])) ∧ ((decide ((↑(ByteArray.size s) : Int) ≥ (↑(ByteArray.size p) : Int)) = false) → Q (AVal.bool false) ([]))
theorem shp_wp (s : ByteArray) (p : ByteArray) {Q : AVal → AState → Prop} (h : shp_T s p Q) : ∃ r σ', FOk Try.prog 33 ([AVal.str s, AVal.str p]) ([]) r σ' ∧ Q r σ' :=
  brE (fun (c0 : decide ((↑(ByteArray.size s) : Int) ≥ (↑(ByteArray.size p) : Int)) = true) => ⟨_, _, shp_1 s p ((h.1 c0).1) (c0), (h.1 c0).2⟩) (fun (c0 : decide ((↑(ByteArray.size s) : Int) ≥ (↑(ByteArray.size p) : Int)) = false) => ⟨_, _, shp_2 s p (c0), (h.2 c0)⟩)


theorem hp_1 (s : ByteArray) (p : ByteArray) (b : Bool)
    (h1 : FOk Try.prog 33 [AVal.str s, AVal.str p] [] (AVal.bool b) []) :
    FOk Try.prog 28 ([AVal.str s, AVal.str p]) ([]) (AVal.bool b) ([]) :=
  (evalF_ok followed Try.func28 (by kernel_rfl) (show evalF Try.prog Try.f28 ([AVal.str s, AVal.str p]) ([]) ([Dec.use [] [AVal.str s, AVal.str p] [] (AVal.bool b) []]) = .ok (FRes.mk (AVal.bool b) ([]) ((Owed.use (owed Try.prog 0) 33 [] [AVal.str s, AVal.str p] [] [AVal.str s, AVal.str p] [] (AVal.bool b) []) :: [])) by kernel_rfl) (allP_of ⟨⟨h1, rfl, rfl, rfl⟩, trivial⟩)).move ([]) (by kernel_rfl) (by kernel_rfl) (by kernel_rfl)

def hp_T (s : ByteArray) (p : ByteArray) (b : Bool) (Q : AVal → AState → Prop) : Prop := (FOk Try.prog 33 [AVal.str s, AVal.str p] [] (AVal.bool b) []) ∧ Q (AVal.bool b) ([])
theorem hp_wp (s : ByteArray) (p : ByteArray) (b : Bool) {Q : AVal → AState → Prop} (h : hp_T s p b Q) : ∃ r σ', FOk Try.prog 28 ([AVal.str s, AVal.str p]) ([]) r σ' ∧ Q r σ' :=
  ⟨_, _, hp_1 s p b (h.1), h.2⟩


end Go.L10

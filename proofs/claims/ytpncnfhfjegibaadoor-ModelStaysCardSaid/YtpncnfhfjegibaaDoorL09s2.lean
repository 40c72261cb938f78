import Derived.Shelf.Sort.Plain
import Derived.Test.YtpncnfhfjegibaaDoorL09s1
section
set_option linter.unusedVariables false
set_option maxRecDepth 100000
namespace Go.MN
open Go Go.Abs Go.Proofs
abbrev iqPE : Int → AVal := AVal.int IntKind.i64
theorem dA3_1 (pre : Ents) (off : Ents) (k : Int) (s : ByteArray) (c : ByteArray) (u : ByteArray) (x : ByteArray) (y : ByteArray) (z : ByteArray) (f : Int) (m : Int)
    (h1 : FOk Tryd.prog 28 [iqPE 1] [] (AVal.agg [iqPE 1, iqPE 0, AVal.fsl true 2 [] none]) [])
    (h2 : FOk Tryd.prog 21 [opw k s c u x y z f m] [] (iqPE 1) [])
    (h3 : FOk Tryd.prog 27 [AVal.ptr 0 2 0 0] (H3 pre off) (AVal.bool true) (H3 pre off)) :
    FOk Tryd.prog 13 ([AVal.ptr 0 2 0 0, opw k s c u x y z f m]) (H3 pre off) (AVal.agg [iqPE 1, iqPE 0, AVal.fsl true 2 [] none]) ((H3 pre off)) :=
  (evalF_ok followed Tryd.func13 (by kernel_rfl) (show evalF Tryd.prog Tryd.f13 ([AVal.ptr 0 2 0 0, opw k s c u x y z f m]) (H3 pre off) ([Dec.use [0, 1, 2] [AVal.ptr 0 2 0 0] (H3 pre off) (AVal.bool true) (H3 pre off), Dec.br false, Dec.use [] [opw k s c u x y z f m] [] (iqPE 1) [], Dec.br true, Dec.use [] [iqPE 1] [] (rep 1 0 nilps) []]) = .ok (FRes.mk (AVal.agg [iqPE 1, iqPE 0, AVal.fsl true 2 [] none]) ([AObj.rows false 2 [[AVal.map 1, AVal.map 2]], AObj.mq pre [] [], AObj.mp true off, AObj.rows true 9 [[iqPE k, AVal.str s, AVal.str c, AVal.str u, AVal.str x, AVal.str y, AVal.str z, iqPE f, iqPE m]], AObj.rows false 3 [[iqPE 1, iqPE 0, AVal.fsl true 2 [] none]]]) (tr 4 ++ ((Owed.use (owed Tryd.prog 3) 28 [] [iqPE 1] [AObj.rows false 2 [[AVal.map 1, AVal.map 2]], AObj.mq pre [] [], AObj.mp true off, AObj.rows true 9 [[iqPE k, AVal.str s, AVal.str c, AVal.str u, AVal.str x, AVal.str y, AVal.str z, iqPE f, iqPE m]], AObj.rows false 3 [[iqPE 0, iqPE 0, AVal.fsl true 0 [] (some 0)]]] [iqPE 1] [] (AVal.agg [iqPE 1, iqPE 0, AVal.fsl true 2 [] none]) []) :: (tr 1 ++ ((Owed.use (owed Tryd.prog 3) 21 [] [opw k s c u x y z f m] [AObj.rows false 2 [[AVal.map 1, AVal.map 2]], AObj.mq pre [] [], AObj.mp true off, AObj.rows true 9 [[iqPE k, AVal.str s, AVal.str c, AVal.str u, AVal.str x, AVal.str y, AVal.str z, iqPE f, iqPE m]], AObj.rows false 3 [[iqPE 0, iqPE 0, AVal.fsl true 0 [] (some 0)]]] [opw k s c u x y z f m] [] (iqPE 1) []) :: (tr 3 ++ ((false = false) :: ((Owed.use (owed Tryd.prog 3) 27 [0, 1, 2] [AVal.ptr 0 2 0 0] [AObj.rows false 2 [[AVal.map 1, AVal.map 2]], AObj.mq pre [] [], AObj.mp true off, AObj.rows true 9 [[iqPE k, AVal.str s, AVal.str c, AVal.str u, AVal.str x, AVal.str y, AVal.str z, iqPE f, iqPE m]], AObj.rows false 3 [[iqPE 0, iqPE 0, AVal.fsl true 0 [] (some 0)]]] [AVal.ptr 0 2 0 0] (H3 pre off) (AVal.bool true) (H3 pre off)) :: [])))))))) by kernel_rfl) (allP_of (trC 4 ⟨⟨h1, rfl, rfl, rfl⟩, (trC 1 ⟨⟨h2, rfl, rfl, rfl⟩, (trC 3 ⟨rfl, ⟨⟨h3, rfl, rfl, rfl⟩, trivial⟩⟩)⟩)⟩))).move ([0, 1, 2]) (by kernel_rfl) (by kernel_rfl) (by kernel_rfl)

def dA3_T (pre : Ents) (off : Ents) (k : Int) (s : ByteArray) (c : ByteArray) (u : ByteArray) (x : ByteArray) (y : ByteArray) (z : ByteArray) (f : Int) (m : Int) (Q : AVal → AState → Prop) : Prop := (FOk Tryd.prog 27 [AVal.ptr 0 2 0 0] [AObj.rows false 2 [[AVal.map 1, AVal.map 2]], AObj.mq pre [] [], AObj.mp true off] (AVal.bool true) [AObj.rows false 2 [[AVal.map 1, AVal.map 2]], AObj.mq pre [] [], AObj.mp true off]) ∧ (FOk Tryd.prog 21 [AVal.agg [AVal.int IntKind.i64 k, AVal.str s, AVal.str c, AVal.str u, AVal.str x, AVal.str y, AVal.str z, AVal.int IntKind.i64 f, AVal.int IntKind.i64 m]] [] (AVal.int IntKind.i64 1) []) ∧ (FOk Tryd.prog 28 [AVal.int IntKind.i64 1] [] (AVal.agg [AVal.int IntKind.i64 1, AVal.int IntKind.i64 0, AVal.fsl true 2 [] none]) []) ∧ Q (AVal.agg [AVal.int IntKind.i64 1, AVal.int IntKind.i64 0, AVal.fsl true 2 [] none]) ([AObj.rows false 2 [[AVal.map 1, AVal.map 2]], AObj.mq pre [] [], AObj.mp true off])
theorem dA3_wp (pre : Ents) (off : Ents) (k : Int) (s : ByteArray) (c : ByteArray) (u : ByteArray) (x : ByteArray) (y : ByteArray) (z : ByteArray) (f : Int) (m : Int) {Q : AVal → AState → Prop} (h : dA3_T pre off k s c u x y z f m Q) : ∃ r σ', FOk Tryd.prog 13 ([AVal.ptr 0 2 0 0, opw k s c u x y z f m]) (H3 pre off) r σ' ∧ Q r σ' :=
  ⟨_, _, dA3_1 pre off k s c u x y z f m (h.2.2.1) (h.2.1) (h.1), h.2.2.2⟩


theorem dN3_1 (pre : Ents) (off : Ents) (k : Int) (s : ByteArray) (c : ByteArray) (u : ByteArray) (x : ByteArray) (y : ByteArray) (z : ByteArray) (f : Int) (m : Int)
    (h1 : FOk Tryd.prog 28 [iqPE 3] [] (AVal.agg [iqPE 3, iqPE 0, AVal.fsl true 2 [] none]) [])
    (h2 : (k == 7) = false)
    (h3 : (k == 6) = false)
    (h4 : (k == 1) = false)
    (h5 : AVal.tuple [Option.getD (afind (ky s c) (pre ++ [] ++ [])) AVal.nilp, AVal.tt (Option.isSome (afind (ky s c) (pre ++ [] ++ [])))] = AVal.tuple [AVal.nilp, AVal.tt false])
    (h6 : (List.all (pre ++ [] ++ []) fun p => keyKind Tryd.prog 69 (Prod.fst p)) = true)
    (h7 : FOk Tryd.prog 21 [opw k s c u x y z f m] [] (iqPE 0) [])
    (h8 : FOk Tryd.prog 27 [AVal.ptr 0 2 0 0] (H3 pre off) (AVal.bool true) (H3 pre off)) :
    FOk Tryd.prog 13 ([AVal.ptr 0 2 0 0, opw k s c u x y z f m]) (H3 pre off) (AVal.agg [iqPE 3, iqPE 0, AVal.fsl true 2 [] none]) ((H3 pre off)) :=
  (evalF_ok followed Tryd.func13 (by kernel_rfl) (show evalF Tryd.prog Tryd.f13 ([AVal.ptr 0 2 0 0, opw k s c u x y z f m]) (H3 pre off) ([Dec.use [0, 1, 2] [AVal.ptr 0 2 0 0] (H3 pre off) (AVal.bool true) (H3 pre off), Dec.br false, Dec.use [] [opw k s c u x y z f m] [] (iqPE 0) [], Dec.br false, Dec.rw (AVal.tuple [AVal.nilp, AVal.tt false]), Dec.br false, Dec.br false, Dec.br false, Dec.use [] [iqPE 3] [] (rep 3 0 nilps) []]) = .ok (FRes.mk (AVal.agg [iqPE 3, iqPE 0, AVal.fsl true 2 [] none]) ([AObj.rows false 2 [[AVal.map 1, AVal.map 2]], AObj.mq pre [] [], AObj.mp true off, AObj.rows true 9 [[iqPE k, AVal.str s, AVal.str c, AVal.str u, AVal.str x, AVal.str y, AVal.str z, iqPE f, iqPE m]], AObj.rows false 3 [[iqPE 3, iqPE 0, AVal.fsl true 2 [] none]], AObj.rows true 2 [[AVal.str s, AVal.str c]]]) (tr 4 ++ ((Owed.use (owed Tryd.prog 3) 28 [] [iqPE 3] [AObj.rows false 2 [[AVal.map 1, AVal.map 2]], AObj.mq pre [] [], AObj.mp true off, AObj.rows true 9 [[iqPE k, AVal.str s, AVal.str c, AVal.str u, AVal.str x, AVal.str y, AVal.str z, iqPE f, iqPE m]], AObj.rows false 3 [[iqPE 0, iqPE 0, AVal.fsl true 0 [] (some 0)]], AObj.rows true 2 [[AVal.str s, AVal.str c]]] [iqPE 3] [] (AVal.agg [iqPE 3, iqPE 0, AVal.fsl true 2 [] none]) []) :: (((k == 7) = false) :: (((k == 6) = false) :: (((k == 1) = false) :: (tr 15 ++ ((AVal.tuple [Option.getD (afind (ky s c) (pre ++ [] ++ [])) AVal.nilp, AVal.tt (Option.isSome (afind (ky s c) (pre ++ [] ++ [])))] = AVal.tuple [AVal.nilp, AVal.tt false]) :: (((List.all (pre ++ [] ++ []) fun p => keyKind Tryd.prog 69 (Prod.fst p)) = true) :: (tr 28 ++ ((false = false) :: ((Owed.use (owed Tryd.prog 3) 21 [] [opw k s c u x y z f m] [AObj.rows false 2 [[AVal.map 1, AVal.map 2]], AObj.mq pre [] [], AObj.mp true off, AObj.rows true 9 [[iqPE k, AVal.str s, AVal.str c, AVal.str u, AVal.str x, AVal.str y, AVal.str z, iqPE f, iqPE m]], AObj.rows false 3 [[iqPE 0, iqPE 0, AVal.fsl true 0 [] (some 0)]]] [opw k s c u x y z f m] [] (iqPE 0) []) :: (tr 3 ++ ((false = false) :: ((Owed.use (owed Tryd.prog 3) 27 [0, 1, 2] [AVal.ptr 0 2 0 0] [AObj.rows false 2 [[AVal.map 1, AVal.map 2]], AObj.mq pre [] [], AObj.mp true off, AObj.rows true 9 [[iqPE k, AVal.str s, AVal.str c, AVal.str u, AVal.str x, AVal.str y, AVal.str z, iqPE f, iqPE m]], AObj.rows false 3 [[iqPE 0, iqPE 0, AVal.fsl true 0 [] (some 0)]]] [AVal.ptr 0 2 0 0] (H3 pre off) (AVal.bool true) (H3 pre off)) :: []))))))))))))))) by kernel_rfl) (allP_of (trC 4 ⟨⟨h1, rfl, rfl, rfl⟩, ⟨h2, ⟨h3, ⟨h4, (trC 15 ⟨h5, ⟨h6, (trC 28 ⟨rfl, ⟨⟨h7, rfl, rfl, rfl⟩, (trC 3 ⟨rfl, ⟨⟨h8, rfl, rfl, rfl⟩, trivial⟩⟩)⟩⟩)⟩⟩)⟩⟩⟩⟩))).move ([0, 1, 2]) (by kernel_rfl) (by kernel_rfl) (by kernel_rfl)

def dN3_T (pre : Ents) (off : Ents) (k : Int) (s : ByteArray) (c : ByteArray) (u : ByteArray) (x : ByteArray) (y : ByteArray) (z : ByteArray) (f : Int) (m : Int) (Q : AVal → AState → Prop) : Prop := (FOk Tryd.prog 27 [AVal.ptr 0 2 0 0] [AObj.rows false 2 [[AVal.map 1, AVal.map 2]], AObj.mq pre [] [], AObj.mp true off] (AVal.bool true) [AObj.rows false 2 [[AVal.map 1, AVal.map 2]], AObj.mq pre [] [], AObj.mp true off]) ∧ (FOk Tryd.prog 21 [AVal.agg [AVal.int IntKind.i64 k, AVal.str s, AVal.str c, AVal.str u, AVal.str x, AVal.str y, AVal.str z, AVal.int IntKind.i64 f, AVal.int IntKind.i64 m]] [] (AVal.int IntKind.i64 0) []) ∧ ((List.all (pre ++ [] ++ []) fun p => keyKind Tryd.prog 69 (Prod.fst p)) = true) ∧ (AVal.tuple [Option.getD (afind (AVal.agg [AVal.str s, AVal.str c]) (pre ++ [] ++ [])) AVal.nilp, AVal.tt (Option.isSome (afind (AVal.agg [AVal.str s, AVal.str c]) (pre ++ [] ++ [])))] = AVal.tuple [AVal.nilp, AVal.tt false]) ∧ ((k == 1) = false) ∧ ((k == 6) = false) ∧ ((k == 7) = false) ∧ (FOk Tryd.prog 28 [AVal.int IntKind.i64 3] [] (AVal.agg [AVal.int IntKind.i64 3, AVal.int IntKind.i64 0, AVal.fsl true 2 [] none]) []) ∧ Q (AVal.agg [AVal.int IntKind.i64 3, AVal.int IntKind.i64 0, AVal.fsl true 2 [] none]) ([AObj.rows false 2 [[AVal.map 1, AVal.map 2]], AObj.mq pre [] [], AObj.mp true off])
theorem dN3_wp (pre : Ents) (off : Ents) (k : Int) (s : ByteArray) (c : ByteArray) (u : ByteArray) (x : ByteArray) (y : ByteArray) (z : ByteArray) (f : Int) (m : Int) {Q : AVal → AState → Prop} (h : dN3_T pre off k s c u x y z f m Q) : ∃ r σ', FOk Tryd.prog 13 ([AVal.ptr 0 2 0 0, opw k s c u x y z f m]) (H3 pre off) r σ' ∧ Q r σ' :=
  ⟨_, _, dN3_1 pre off k s c u x y z f m (h.2.2.2.2.2.2.2.1) (h.2.2.2.2.2.2.1) (h.2.2.2.2.2.1) (h.2.2.2.2.1) (h.2.2.2.1) (h.2.2.1) (h.2.1) (h.1), h.2.2.2.2.2.2.2.2⟩


theorem dM3_1 (pre : Ents) (off : Ents) (s : ByteArray) (c : ByteArray)
    (h1 : (List.all (pre ++ []) fun p => keyKind Tryd.prog 69 (Prod.fst p)) = true)
    (h2 : Option.isNone (afind (ky s c) (pre ++ [])) = true)
    (h3 : AVal.tuple [Option.getD (afind (ky s c) (pre ++ [] ++ [])) AVal.nilp, AVal.tt (Option.isSome (afind (ky s c) (pre ++ [] ++ [])))] = AVal.tuple [AVal.nilp, AVal.tt false])
    (h4 : (List.all (pre ++ [] ++ []) fun p => keyKind Tryd.prog 69 (Prod.fst p)) = true)
    (h5 : FOk Tryd.prog 21 [AVal.agg [iqPE 1, AVal.str s, AVal.str c, AVal.str w0, AVal.str w0, AVal.str w0, AVal.str w0, iqPE 0, iqPE 0]] [] (iqPE 0) [])
    (h6 : FOk Tryd.prog 27 [AVal.ptr 0 2 0 0] (H3 pre off) (AVal.bool true) (H3 pre off)) :
    FOk Tryd.prog 13 ([AVal.ptr 0 2 0 0, opw 1 s c w0 w0 w0 w0 0 0]) (H3 pre off) (AVal.agg [iqPE 0, iqPE 0, AVal.fsl true 2 [] none]) ([AObj.rows false 2 [[AVal.map 1, AVal.map 2]], AObj.mq (pre ++ []) [(ky s c, AVal.ptr 3 2 0 0)] [], AObj.mp true off, AObj.rows false 2 [[AVal.map 4, AVal.fsl true 0 [] (some 0)]], AObj.mp true []]) :=
  (evalF_ok followed Tryd.func13 (by kernel_rfl) (show evalF Tryd.prog Tryd.f13 ([AVal.ptr 0 2 0 0, opw 1 s c w0 w0 w0 w0 0 0]) (H3 pre off) ([Dec.use [0, 1, 2] [AVal.ptr 0 2 0 0] (H3 pre off) (AVal.bool true) (H3 pre off), Dec.br false, Dec.use [] [AVal.agg [iqPE 1, AVal.str s, AVal.str c, AVal.str w0, AVal.str w0, AVal.str w0, AVal.str w0, iqPE 0, iqPE 0]] [] (iqPE 0) [], Dec.br false, Dec.rw (AVal.tuple [AVal.nilp, AVal.tt false]), Dec.br true]) = .ok (FRes.mk (AVal.agg [iqPE 0, iqPE 0, AVal.fsl true 2 [] none]) ([AObj.rows false 2 [[AVal.map 1, AVal.map 2]], AObj.mq (pre ++ []) [(AVal.agg [AVal.str s, AVal.str c], AVal.ptr 7 2 0 0)] [], AObj.mp true off, AObj.rows true 9 [[iqPE 1, AVal.str s, AVal.str c, AVal.str w0, AVal.str w0, AVal.str w0, AVal.str w0, iqPE 0, iqPE 0]], AObj.rows false 3 [[iqPE 0, iqPE 0, AVal.fsl true 0 [] (some 0)]], AObj.rows true 2 [[AVal.str s, AVal.str c]], AObj.mp true [], AObj.rows false 2 [[AVal.map 6, AVal.fsl true 0 [] (some 0)]]]) (tr 6 ++ (((List.all (pre ++ []) fun p => keyKind Tryd.prog 69 (Prod.fst p)) = true) :: ((Option.isNone (afind (ky s c) (pre ++ [])) = true) :: (tr 42 ++ ((AVal.tuple [Option.getD (afind (ky s c) (pre ++ [] ++ [])) AVal.nilp, AVal.tt (Option.isSome (afind (ky s c) (pre ++ [] ++ [])))] = AVal.tuple [AVal.nilp, AVal.tt false]) :: (((List.all (pre ++ [] ++ []) fun p => keyKind Tryd.prog 69 (Prod.fst p)) = true) :: (tr 28 ++ ((false = false) :: ((Owed.use (owed Tryd.prog 3) 21 [] [AVal.agg [iqPE 1, AVal.str s, AVal.str c, AVal.str w0, AVal.str w0, AVal.str w0, AVal.str w0, iqPE 0, iqPE 0]] [AObj.rows false 2 [[AVal.map 1, AVal.map 2]], AObj.mq pre [] [], AObj.mp true off, AObj.rows true 9 [[iqPE 1, AVal.str s, AVal.str c, AVal.str w0, AVal.str w0, AVal.str w0, AVal.str w0, iqPE 0, iqPE 0]], AObj.rows false 3 [[iqPE 0, iqPE 0, AVal.fsl true 0 [] (some 0)]]] [AVal.agg [iqPE 1, AVal.str s, AVal.str c, AVal.str w0, AVal.str w0, AVal.str w0, AVal.str w0, iqPE 0, iqPE 0]] [] (iqPE 0) []) :: (tr 3 ++ ((false = false) :: ((Owed.use (owed Tryd.prog 3) 27 [0, 1, 2] [AVal.ptr 0 2 0 0] [AObj.rows false 2 [[AVal.map 1, AVal.map 2]], AObj.mq pre [] [], AObj.mp true off, AObj.rows true 9 [[iqPE 1, AVal.str s, AVal.str c, AVal.str w0, AVal.str w0, AVal.str w0, AVal.str w0, iqPE 0, iqPE 0]], AObj.rows false 3 [[iqPE 0, iqPE 0, AVal.fsl true 0 [] (some 0)]]] [AVal.ptr 0 2 0 0] (H3 pre off) (AVal.bool true) (H3 pre off)) :: []))))))))))))) by kernel_rfl) (allP_of (trC 6 ⟨h1, ⟨h2, (trC 42 ⟨h3, ⟨h4, (trC 28 ⟨rfl, ⟨⟨h5, rfl, rfl, rfl⟩, (trC 3 ⟨rfl, ⟨⟨h6, rfl, rfl, rfl⟩, trivial⟩⟩)⟩⟩)⟩⟩)⟩⟩))).move ([0, 1, 2, 7, 6]) (by kernel_rfl) (by kernel_rfl) (by kernel_rfl)

def dM3_T (pre : Ents) (off : Ents) (s : ByteArray) (c : ByteArray) (Q : AVal → AState → Prop) : Prop := (FOk Tryd.prog 27 [AVal.ptr 0 2 0 0] [AObj.rows false 2 [[AVal.map 1, AVal.map 2]], AObj.mq pre [] [], AObj.mp true off] (AVal.bool true) [AObj.rows false 2 [[AVal.map 1, AVal.map 2]], AObj.mq pre [] [], AObj.mp true off]) ∧ (FOk Tryd.prog 21 [AVal.agg [AVal.int IntKind.i64 1, AVal.str s, AVal.str c, AVal.str w0, AVal.str w0, AVal.str w0, AVal.str w0, AVal.int IntKind.i64 0, AVal.int IntKind.i64 0]] [] (AVal.int IntKind.i64 0) []) ∧ ((List.all (pre ++ [] ++ []) fun p => keyKind Tryd.prog 69 (Prod.fst p)) = true) ∧ (AVal.tuple [Option.getD (afind (AVal.agg [AVal.str s, AVal.str c]) (pre ++ [] ++ [])) AVal.nilp, AVal.tt (Option.isSome (afind (AVal.agg [AVal.str s, AVal.str c]) (pre ++ [] ++ [])))] = AVal.tuple [AVal.nilp, AVal.tt false]) ∧ (Option.isNone (afind (AVal.agg [AVal.str s, AVal.str c]) (pre ++ [])) = true) ∧ ((List.all (pre ++ []) fun p => keyKind Tryd.prog 69 (Prod.fst p)) = true) ∧ Q (AVal.agg [AVal.int IntKind.i64 0, AVal.int IntKind.i64 0, AVal.fsl true 2 [] none]) ([AObj.rows false 2 [[AVal.map 1, AVal.map 2]], AObj.mq (pre ++ []) [(AVal.agg [AVal.str s, AVal.str c], AVal.ptr 3 2 0 0)] [], AObj.mp true off, AObj.rows false 2 [[AVal.map 4, AVal.fsl true 0 [] (some 0)]], AObj.mp true []])
theorem dM3_wp (pre : Ents) (off : Ents) (s : ByteArray) (c : ByteArray) {Q : AVal → AState → Prop} (h : dM3_T pre off s c Q) : ∃ r σ', FOk Tryd.prog 13 ([AVal.ptr 0 2 0 0, opw 1 s c w0 w0 w0 w0 0 0]) (H3 pre off) r σ' ∧ Q r σ' :=
  ⟨_, _, dM3_1 pre off s c (h.2.2.2.2.2.1) (h.2.2.2.2.1) (h.2.2.2.1) (h.2.2.1) (h.2.1) (h.1), h.2.2.2.2.2.2⟩


theorem dM6_1 (pre : Ents) (post : Ents) (s : ByteArray) (c : ByteArray) (off : Ents) (mem : Ents) (b : Bool) (ps : List (List AVal))
    (h1 : FOk Tryd.prog 28 [iqPE 90] [] (AVal.agg [iqPE 90, iqPE 0, AVal.fsl true 2 [] none]) [])
    (h2 : AVal.tuple [Option.getD (afind (ky s c) (pre ++ [(ky s c, AVal.ptr 3 2 0 0)] ++ post)) AVal.nilp, AVal.tt (Option.isSome (afind (ky s c) (pre ++ [(ky s c, AVal.ptr 3 2 0 0)] ++ post)))] = AVal.tuple [AVal.ptr 3 2 0 0, AVal.tt true])
    (h3 : (List.all (pre ++ [(ky s c, AVal.ptr 3 2 0 0)] ++ post) fun p => keyKind Tryd.prog 69 (Prod.fst p)) = true)
    (h4 : FOk Tryd.prog 21 [AVal.agg [iqPE 1, AVal.str s, AVal.str c, AVal.str w0, AVal.str w0, AVal.str w0, AVal.str w0, iqPE 0, iqPE 0]] [] (iqPE 0) [])
    (h5 : FOk Tryd.prog 27 [AVal.ptr 0 2 0 0] (H6 pre post s c off mem b ps) (AVal.bool true) (H6 pre post s c off mem b ps)) :
    FOk Tryd.prog 13 ([AVal.ptr 0 2 0 0, opw 1 s c w0 w0 w0 w0 0 0]) (H6 pre post s c off mem b ps) (AVal.agg [iqPE 90, iqPE 0, AVal.fsl true 2 [] none]) ((H6 pre post s c off mem b ps)) :=
  (evalF_ok followed Tryd.func13 (by kernel_rfl) (show evalF Tryd.prog Tryd.f13 ([AVal.ptr 0 2 0 0, opw 1 s c w0 w0 w0 w0 0 0]) (H6 pre post s c off mem b ps) ([Dec.use [0, 1, 2, 3, 4, 5] [AVal.ptr 0 2 0 0] (H6 pre post s c off mem b ps) (AVal.bool true) (H6 pre post s c off mem b ps), Dec.br false, Dec.use [] [AVal.agg [iqPE 1, AVal.str s, AVal.str c, AVal.str w0, AVal.str w0, AVal.str w0, AVal.str w0, iqPE 0, iqPE 0]] [] (iqPE 0) [], Dec.br false, Dec.rw (AVal.tuple [AVal.ptr 3 2 0 0, AVal.tt true]), Dec.br true, Dec.use [] [iqPE 90] [] (rep 90 0 nilps) []]) = .ok (FRes.mk (AVal.agg [iqPE 90, iqPE 0, AVal.fsl true 2 [] none]) ([AObj.rows false 2 [[AVal.map 1, AVal.map 2]], AObj.mq pre [(ky s c, AVal.ptr 3 2 0 0)] post, AObj.mp true off, AObj.rows false 2 [[AVal.map 4, AVal.slc b 5 2 0 (List.length ps) none]], AObj.mp true mem, AObj.rows true 2 ps, AObj.rows true 9 [[iqPE 1, AVal.str s, AVal.str c, AVal.str w0, AVal.str w0, AVal.str w0, AVal.str w0, iqPE 0, iqPE 0]], AObj.rows false 3 [[iqPE 90, iqPE 0, AVal.fsl true 2 [] none]], AObj.rows true 2 [[AVal.str s, AVal.str c]]]) (tr 4 ++ ((Owed.use (owed Tryd.prog 6) 28 [] [iqPE 90] [AObj.rows false 2 [[AVal.map 1, AVal.map 2]], AObj.mq pre [(ky s c, AVal.ptr 3 2 0 0)] post, AObj.mp true off, AObj.rows false 2 [[AVal.map 4, AVal.slc b 5 2 0 (List.length ps) none]], AObj.mp true mem, AObj.rows true 2 ps, AObj.rows true 9 [[iqPE 1, AVal.str s, AVal.str c, AVal.str w0, AVal.str w0, AVal.str w0, AVal.str w0, iqPE 0, iqPE 0]], AObj.rows false 3 [[iqPE 0, iqPE 0, AVal.fsl true 0 [] (some 0)]], AObj.rows true 2 [[AVal.str s, AVal.str c]]] [iqPE 90] [] (AVal.agg [iqPE 90, iqPE 0, AVal.fsl true 2 [] none]) []) :: (tr 16 ++ ((AVal.tuple [Option.getD (afind (ky s c) (pre ++ [(ky s c, AVal.ptr 3 2 0 0)] ++ post)) AVal.nilp, AVal.tt (Option.isSome (afind (ky s c) (pre ++ [(ky s c, AVal.ptr 3 2 0 0)] ++ post)))] = AVal.tuple [AVal.ptr 3 2 0 0, AVal.tt true]) :: (((List.all (pre ++ [(ky s c, AVal.ptr 3 2 0 0)] ++ post) fun p => keyKind Tryd.prog 69 (Prod.fst p)) = true) :: (tr 28 ++ ((false = false) :: ((Owed.use (owed Tryd.prog 6) 21 [] [AVal.agg [iqPE 1, AVal.str s, AVal.str c, AVal.str w0, AVal.str w0, AVal.str w0, AVal.str w0, iqPE 0, iqPE 0]] [AObj.rows false 2 [[AVal.map 1, AVal.map 2]], AObj.mq pre [(ky s c, AVal.ptr 3 2 0 0)] post, AObj.mp true off, AObj.rows false 2 [[AVal.map 4, AVal.slc b 5 2 0 (List.length ps) none]], AObj.mp true mem, AObj.rows true 2 ps, AObj.rows true 9 [[iqPE 1, AVal.str s, AVal.str c, AVal.str w0, AVal.str w0, AVal.str w0, AVal.str w0, iqPE 0, iqPE 0]], AObj.rows false 3 [[iqPE 0, iqPE 0, AVal.fsl true 0 [] (some 0)]]] [AVal.agg [iqPE 1, AVal.str s, AVal.str c, AVal.str w0, AVal.str w0, AVal.str w0, AVal.str w0, iqPE 0, iqPE 0]] [] (iqPE 0) []) :: (tr 3 ++ ((false = false) :: ((Owed.use (owed Tryd.prog 6) 27 [0, 1, 2, 3, 4, 5] [AVal.ptr 0 2 0 0] [AObj.rows false 2 [[AVal.map 1, AVal.map 2]], AObj.mq pre [(ky s c, AVal.ptr 3 2 0 0)] post, AObj.mp true off, AObj.rows false 2 [[AVal.map 4, AVal.slc b 5 2 0 (List.length ps) none]], AObj.mp true mem, AObj.rows true 2 ps, AObj.rows true 9 [[iqPE 1, AVal.str s, AVal.str c, AVal.str w0, AVal.str w0, AVal.str w0, AVal.str w0, iqPE 0, iqPE 0]], AObj.rows false 3 [[iqPE 0, iqPE 0, AVal.fsl true 0 [] (some 0)]]] [AVal.ptr 0 2 0 0] (H6 pre post s c off mem b ps) (AVal.bool true) (H6 pre post s c off mem b ps)) :: [])))))))))))) by kernel_rfl) (allP_of (trC 4 ⟨⟨h1, rfl, rfl, rfl⟩, (trC 16 ⟨h2, ⟨h3, (trC 28 ⟨rfl, ⟨⟨h4, rfl, rfl, rfl⟩, (trC 3 ⟨rfl, ⟨⟨h5, rfl, rfl, rfl⟩, trivial⟩⟩)⟩⟩)⟩⟩)⟩))).move ([0, 1, 2, 3, 4, 5]) (by kernel_rfl) (by kernel_rfl) (by kernel_rfl)

def dM6_T (pre : Ents) (post : Ents) (s : ByteArray) (c : ByteArray) (off : Ents) (mem : Ents) (b : Bool) (ps : List (List AVal)) (Q : AVal → AState → Prop) : Prop := (FOk Tryd.prog 27 [AVal.ptr 0 2 0 0] [AObj.rows false 2 [[AVal.map 1, AVal.map 2]], AObj.mq pre [(AVal.agg [AVal.str s, AVal.str c], AVal.ptr 3 2 0 0)] post, AObj.mp true off, AObj.rows false 2 [[AVal.map 4, AVal.slc b 5 2 0 (List.length ps) none]], AObj.mp true mem, AObj.rows true 2 ps] (AVal.bool true) [AObj.rows false 2 [[AVal.map 1, AVal.map 2]], AObj.mq pre [(AVal.agg [AVal.str s, AVal.str c], AVal.ptr 3 2 0 0)] post, AObj.mp true off, AObj.rows false 2 [[AVal.map 4, AVal.slc b 5 2 0 (List.length ps) none]], AObj.mp true mem, AObj.rows true 2 ps]) ∧ (FOk Tryd.prog 21 [AVal.agg [AVal.int IntKind.i64 1, AVal.str s, AVal.str c, AVal.str w0, AVal.str w0, AVal.str w0, AVal.str w0, AVal.int IntKind.i64 0, AVal.int IntKind.i64 0]] [] (AVal.int IntKind.i64 0) []) ∧ ((List.all (pre ++ [(AVal.agg [AVal.str s, AVal.str c], AVal.ptr 3 2 0 0)] ++ post) fun p => keyKind Tryd.prog 69 (Prod.fst p)) = true) ∧ (AVal.tuple [Option.getD (afind (AVal.agg [AVal.str s, AVal.str c]) (pre ++ [(AVal.agg [AVal.str s, AVal.str c], AVal.ptr 3 2 0 0)] ++ post)) AVal.nilp, AVal.tt (Option.isSome (afind (AVal.agg [AVal.str s, AVal.str c]) (pre ++ [(AVal.agg [AVal.str s, AVal.str c], AVal.ptr 3 2 0 0)] ++ post)))] = AVal.tuple [AVal.ptr 3 2 0 0, AVal.tt true]) ∧ (FOk Tryd.prog 28 [AVal.int IntKind.i64 90] [] (AVal.agg [AVal.int IntKind.i64 90, AVal.int IntKind.i64 0, AVal.fsl true 2 [] none]) []) ∧ Q (AVal.agg [AVal.int IntKind.i64 90, AVal.int IntKind.i64 0, AVal.fsl true 2 [] none]) ([AObj.rows false 2 [[AVal.map 1, AVal.map 2]], AObj.mq pre [(AVal.agg [AVal.str s, AVal.str c], AVal.ptr 3 2 0 0)] post, AObj.mp true off, AObj.rows false 2 [[AVal.map 4, AVal.slc b 5 2 0 (List.length ps) none]], AObj.mp true mem, AObj.rows true 2 ps])
theorem dM6_wp (pre : Ents) (post : Ents) (s : ByteArray) (c : ByteArray) (off : Ents) (mem : Ents) (b : Bool) (ps : List (List AVal)) {Q : AVal → AState → Prop} (h : dM6_T pre post s c off mem b ps Q) : ∃ r σ', FOk Tryd.prog 13 ([AVal.ptr 0 2 0 0, opw 1 s c w0 w0 w0 w0 0 0]) (H6 pre post s c off mem b ps) r σ' ∧ Q r σ' :=
  ⟨_, _, dM6_1 pre post s c off mem b ps (h.2.2.2.2.1) (h.2.2.2.1) (h.2.2.1) (h.2.1) (h.1), h.2.2.2.2.2⟩


theorem dS_1 (pre : Ents) (post : Ents) (k : Int) (s : ByteArray) (c : ByteArray) (u : ByteArray) (x : ByteArray) (y : ByteArray) (z : ByteArray) (f : Int) (m : Int) (off : Ents) (mem : Ents) (b : Bool) (ps : List (List AVal)) (e : Int) (a : Int) (nl : Bool) (qs : List (List AVal))
    (h1 : FOk Tryd.prog 31 [AVal.ptr 0 2 0 0, AVal.agg [AVal.str s, AVal.str c], AVal.ptr 1 2 0 0, opw k s c u x y z f m] (W6 pre post s c off mem b ps) (AVal.agg [iqPE e, iqPE a, AVal.fsl nl 2 qs none]) (W6 pre post s c off mem b ps))
    (h2 : (k == 7) = false)
    (h3 : (k == 6) = false)
    (h4 : (k == 1) = false)
    (h5 : AVal.tuple [Option.getD (afind (ky s c) (pre ++ [(ky s c, AVal.ptr 3 2 0 0)] ++ post)) AVal.nilp, AVal.tt (Option.isSome (afind (ky s c) (pre ++ [(ky s c, AVal.ptr 3 2 0 0)] ++ post)))] = AVal.tuple [AVal.ptr 3 2 0 0, AVal.tt true])
    (h6 : (List.all (pre ++ [(ky s c, AVal.ptr 3 2 0 0)] ++ post) fun p => keyKind Tryd.prog 69 (Prod.fst p)) = true)
    (h7 : FOk Tryd.prog 21 [opw k s c u x y z f m] [] (iqPE 0) [])
    (h8 : FOk Tryd.prog 27 [AVal.ptr 0 2 0 0] (H6 pre post s c off mem b ps) (AVal.bool true) (H6 pre post s c off mem b ps)) :
    FOk Tryd.prog 13 ([AVal.ptr 0 2 0 0, opw k s c u x y z f m]) (H6 pre post s c off mem b ps) (AVal.agg [iqPE e, iqPE a, AVal.fsl nl 2 qs none]) ((H6 pre post s c off mem b ps)) :=
  (evalF_ok followed Tryd.func13 (by kernel_rfl) (show evalF Tryd.prog Tryd.f13 ([AVal.ptr 0 2 0 0, opw k s c u x y z f m]) (H6 pre post s c off mem b ps) ([Dec.use [0, 1, 2, 3, 4, 5] [AVal.ptr 0 2 0 0] (H6 pre post s c off mem b ps) (AVal.bool true) (H6 pre post s c off mem b ps), Dec.br false, Dec.use [] [opw k s c u x y z f m] [] (iqPE 0) [], Dec.br false, Dec.rw (AVal.tuple [AVal.ptr 3 2 0 0, AVal.tt true]), Dec.br false, Dec.br false, Dec.br false, Dec.use [0, 3, 1, 2, 4, 5] [AVal.ptr 0 2 0 0, AVal.agg [AVal.str s, AVal.str c], AVal.ptr 1 2 0 0, opw k s c u x y z f m] (W6 pre post s c off mem b ps) (rep e a (AVal.fsl nl 2 qs none)) (W6 pre post s c off mem b ps)]) = .ok (FRes.mk (AVal.agg [iqPE e, iqPE a, AVal.fsl nl 2 qs none]) ([AObj.rows false 2 [[AVal.map 1, AVal.map 2]], AObj.mq pre [(ky s c, AVal.ptr 3 2 0 0)] post, AObj.mp true off, AObj.rows false 2 [[AVal.map 4, AVal.slc b 5 2 0 (List.length ps) none]], AObj.mp true mem, AObj.rows true 2 ps, AObj.rows true 9 [[iqPE k, AVal.str s, AVal.str c, AVal.str u, AVal.str x, AVal.str y, AVal.str z, iqPE f, iqPE m]], AObj.rows false 3 [[iqPE e, iqPE a, AVal.fsl nl 2 qs none]], AObj.rows true 2 [[AVal.str s, AVal.str c]]]) (tr 4 ++ ((Owed.use (owed Tryd.prog 6) 31 [0, 3, 1, 2, 4, 5] [AVal.ptr 0 2 0 0, AVal.agg [AVal.str s, AVal.str c], AVal.ptr 3 2 0 0, opw k s c u x y z f m] [AObj.rows false 2 [[AVal.map 1, AVal.map 2]], AObj.mq pre [(ky s c, AVal.ptr 3 2 0 0)] post, AObj.mp true off, AObj.rows false 2 [[AVal.map 4, AVal.slc b 5 2 0 (List.length ps) none]], AObj.mp true mem, AObj.rows true 2 ps, AObj.rows true 9 [[iqPE k, AVal.str s, AVal.str c, AVal.str u, AVal.str x, AVal.str y, AVal.str z, iqPE f, iqPE m]], AObj.rows false 3 [[iqPE 0, iqPE 0, AVal.fsl true 0 [] (some 0)]], AObj.rows true 2 [[AVal.str s, AVal.str c]]] [AVal.ptr 0 2 0 0, AVal.agg [AVal.str s, AVal.str c], AVal.ptr 1 2 0 0, opw k s c u x y z f m] (W6 pre post s c off mem b ps) (AVal.agg [iqPE e, iqPE a, AVal.fsl nl 2 qs none]) (W6 pre post s c off mem b ps)) :: (tr 6 ++ (((k == 7) = false) :: (((k == 6) = false) :: (((k == 1) = false) :: (tr 15 ++ ((AVal.tuple [Option.getD (afind (ky s c) (pre ++ [(ky s c, AVal.ptr 3 2 0 0)] ++ post)) AVal.nilp, AVal.tt (Option.isSome (afind (ky s c) (pre ++ [(ky s c, AVal.ptr 3 2 0 0)] ++ post)))] = AVal.tuple [AVal.ptr 3 2 0 0, AVal.tt true]) :: (((List.all (pre ++ [(ky s c, AVal.ptr 3 2 0 0)] ++ post) fun p => keyKind Tryd.prog 69 (Prod.fst p)) = true) :: (tr 28 ++ ((false = false) :: ((Owed.use (owed Tryd.prog 6) 21 [] [opw k s c u x y z f m] [AObj.rows false 2 [[AVal.map 1, AVal.map 2]], AObj.mq pre [(ky s c, AVal.ptr 3 2 0 0)] post, AObj.mp true off, AObj.rows false 2 [[AVal.map 4, AVal.slc b 5 2 0 (List.length ps) none]], AObj.mp true mem, AObj.rows true 2 ps, AObj.rows true 9 [[iqPE k, AVal.str s, AVal.str c, AVal.str u, AVal.str x, AVal.str y, AVal.str z, iqPE f, iqPE m]], AObj.rows false 3 [[iqPE 0, iqPE 0, AVal.fsl true 0 [] (some 0)]]] [opw k s c u x y z f m] [] (iqPE 0) []) :: (tr 3 ++ ((false = false) :: ((Owed.use (owed Tryd.prog 6) 27 [0, 1, 2, 3, 4, 5] [AVal.ptr 0 2 0 0] [AObj.rows false 2 [[AVal.map 1, AVal.map 2]], AObj.mq pre [(ky s c, AVal.ptr 3 2 0 0)] post, AObj.mp true off, AObj.rows false 2 [[AVal.map 4, AVal.slc b 5 2 0 (List.length ps) none]], AObj.mp true mem, AObj.rows true 2 ps, AObj.rows true 9 [[iqPE k, AVal.str s, AVal.str c, AVal.str u, AVal.str x, AVal.str y, AVal.str z, iqPE f, iqPE m]], AObj.rows false 3 [[iqPE 0, iqPE 0, AVal.fsl true 0 [] (some 0)]]] [AVal.ptr 0 2 0 0] (H6 pre post s c off mem b ps) (AVal.bool true) (H6 pre post s c off mem b ps)) :: [])))))))))))))))) by kernel_rfl) (allP_of (trC 4 ⟨⟨h1, rfl, rfl, rfl⟩, (trC 6 ⟨h2, ⟨h3, ⟨h4, (trC 15 ⟨h5, ⟨h6, (trC 28 ⟨rfl, ⟨⟨h7, rfl, rfl, rfl⟩, (trC 3 ⟨rfl, ⟨⟨h8, rfl, rfl, rfl⟩, trivial⟩⟩)⟩⟩)⟩⟩)⟩⟩⟩)⟩))).move ([0, 1, 2, 3, 4, 5]) (by kernel_rfl) (by kernel_rfl) (by kernel_rfl)

def dS_T (pre : Ents) (post : Ents) (k : Int) (s : ByteArray) (c : ByteArray) (u : ByteArray) (x : ByteArray) (y : ByteArray) (z : ByteArray) (f : Int) (m : Int) (off : Ents) (mem : Ents) (b : Bool) (ps : List (List AVal)) (e : Int) (a : Int) (nl : Bool) (qs : List (List AVal)) (Q : AVal → AState → Prop) : Prop := (FOk Tryd.prog 27 [AVal.ptr 0 2 0 0] [AObj.rows false 2 [[AVal.map 1, AVal.map 2]], AObj.mq pre [(AVal.agg [AVal.str s, AVal.str c], AVal.ptr 3 2 0 0)] post, AObj.mp true off, AObj.rows false 2 [[AVal.map 4, AVal.slc b 5 2 0 (List.length ps) none]], AObj.mp true mem, AObj.rows true 2 ps] (AVal.bool true) [AObj.rows false 2 [[AVal.map 1, AVal.map 2]], AObj.mq pre [(AVal.agg [AVal.str s, AVal.str c], AVal.ptr 3 2 0 0)] post, AObj.mp true off, AObj.rows false 2 [[AVal.map 4, AVal.slc b 5 2 0 (List.length ps) none]], AObj.mp true mem, AObj.rows true 2 ps]) ∧ (FOk Tryd.prog 21 [AVal.agg [AVal.int IntKind.i64 k, AVal.str s, AVal.str c, AVal.str u, AVal.str x, AVal.str y, AVal.str z, AVal.int IntKind.i64 f, AVal.int IntKind.i64 m]] [] (AVal.int IntKind.i64 0) []) ∧ ((List.all (pre ++ [(AVal.agg [AVal.str s, AVal.str c], AVal.ptr 3 2 0 0)] ++ post) fun p => keyKind Tryd.prog 69 (Prod.fst p)) = true) ∧ (AVal.tuple [Option.getD (afind (AVal.agg [AVal.str s, AVal.str c]) (pre ++ [(AVal.agg [AVal.str s, AVal.str c], AVal.ptr 3 2 0 0)] ++ post)) AVal.nilp, AVal.tt (Option.isSome (afind (AVal.agg [AVal.str s, AVal.str c]) (pre ++ [(AVal.agg [AVal.str s, AVal.str c], AVal.ptr 3 2 0 0)] ++ post)))] = AVal.tuple [AVal.ptr 3 2 0 0, AVal.tt true]) ∧ ((k == 1) = false) ∧ ((k == 6) = false) ∧ ((k == 7) = false) ∧ (FOk Tryd.prog 31 [AVal.ptr 0 2 0 0, AVal.agg [AVal.str s, AVal.str c], AVal.ptr 1 2 0 0, AVal.agg [AVal.int IntKind.i64 k, AVal.str s, AVal.str c, AVal.str u, AVal.str x, AVal.str y, AVal.str z, AVal.int IntKind.i64 f, AVal.int IntKind.i64 m]] [AObj.rows false 2 [[AVal.map 2, AVal.map 3]], AObj.rows false 2 [[AVal.map 4, AVal.slc b 5 2 0 (List.length ps) none]], AObj.mq pre [(AVal.agg [AVal.str s, AVal.str c], AVal.ptr 1 2 0 0)] post, AObj.mp true off, AObj.mp true mem, AObj.rows true 2 ps] (AVal.agg [AVal.int IntKind.i64 e, AVal.int IntKind.i64 a, AVal.fsl nl 2 qs none]) [AObj.rows false 2 [[AVal.map 2, AVal.map 3]], AObj.rows false 2 [[AVal.map 4, AVal.slc b 5 2 0 (List.length ps) none]], AObj.mq pre [(AVal.agg [AVal.str s, AVal.str c], AVal.ptr 1 2 0 0)] post, AObj.mp true off, AObj.mp true mem, AObj.rows true 2 ps]) ∧ Q (AVal.agg [AVal.int IntKind.i64 e, AVal.int IntKind.i64 a, AVal.fsl nl 2 qs none]) ([AObj.rows false 2 [[AVal.map 1, AVal.map 2]], AObj.mq pre [(AVal.agg [AVal.str s, AVal.str c], AVal.ptr 3 2 0 0)] post, AObj.mp true off, AObj.rows false 2 [[AVal.map 4, AVal.slc b 5 2 0 (List.length ps) none]], AObj.mp true mem, AObj.rows true 2 ps])
theorem dS_wp (pre : Ents) (post : Ents) (k : Int) (s : ByteArray) (c : ByteArray) (u : ByteArray) (x : ByteArray) (y : ByteArray) (z : ByteArray) (f : Int) (m : Int) (off : Ents) (mem : Ents) (b : Bool) (ps : List (List AVal)) (e : Int) (a : Int) (nl : Bool) (qs : List (List AVal)) {Q : AVal → AState → Prop} (h : dS_T pre post k s c u x y z f m off mem b ps e a nl qs Q) : ∃ r σ', FOk Tryd.prog 13 ([AVal.ptr 0 2 0 0, opw k s c u x y z f m]) (H6 pre post s c off mem b ps) r σ' ∧ Q r σ' :=
  ⟨_, _, dS_1 pre post k s c u x y z f m off mem b ps e a nl qs (h.2.2.2.2.2.2.2.1) (h.2.2.2.2.2.2.1) (h.2.2.2.2.2.1) (h.2.2.2.2.1) (h.2.2.2.1) (h.2.2.1) (h.2.1) (h.1), h.2.2.2.2.2.2.2.2⟩


theorem dJ_1 (pre : Ents) (post : Ents) (s : ByteArray) (c : ByteArray) (u : ByteArray) (off : Ents) (mem : Ents) (mem2 : Ents) (b : Bool) (ps : List (List AVal))
    (h1 : FOk Tryd.prog 31 [AVal.ptr 0 2 0 0, AVal.agg [AVal.str s, AVal.str c], AVal.ptr 1 2 0 0, AVal.agg [iqPE 2, AVal.str s, AVal.str c, AVal.str u, AVal.str w0, AVal.str w0, AVal.str w0, iqPE 0, iqPE 0]] (W6 pre post s c off mem b ps) (AVal.agg [iqPE 0, iqPE 0, AVal.fsl true 2 [] none]) [AObj.rows false 2 [[AVal.map 2, AVal.map 3]], AObj.rows false 2 [[AVal.map 4, AVal.slc b 5 2 0 (List.length ps) none]], AObj.mq pre [(AVal.agg [AVal.str s, AVal.str c], AVal.ptr 1 2 0 0)] post, AObj.mp true off, AObj.mp true mem2, AObj.rows true 2 ps])
    (h2 : AVal.tuple [Option.getD (afind (ky s c) (pre ++ [(ky s c, AVal.ptr 3 2 0 0)] ++ post)) AVal.nilp, AVal.tt (Option.isSome (afind (ky s c) (pre ++ [(ky s c, AVal.ptr 3 2 0 0)] ++ post)))] = AVal.tuple [AVal.ptr 3 2 0 0, AVal.tt true])
    (h3 : (List.all (pre ++ [(ky s c, AVal.ptr 3 2 0 0)] ++ post) fun p => keyKind Tryd.prog 69 (Prod.fst p)) = true)
    (h4 : FOk Tryd.prog 21 [AVal.agg [iqPE 2, AVal.str s, AVal.str c, AVal.str u, AVal.str w0, AVal.str w0, AVal.str w0, iqPE 0, iqPE 0]] [] (iqPE 0) [])
    (h5 : FOk Tryd.prog 27 [AVal.ptr 0 2 0 0] (H6 pre post s c off mem b ps) (AVal.bool true) (H6 pre post s c off mem b ps)) :
    FOk Tryd.prog 13 ([AVal.ptr 0 2 0 0, opw 2 s c u w0 w0 w0 0 0]) (H6 pre post s c off mem b ps) (AVal.agg [iqPE 0, iqPE 0, AVal.fsl true 2 [] none]) ([AObj.rows false 2 [[AVal.map 1, AVal.map 2]], AObj.mq pre [(ky s c, AVal.ptr 3 2 0 0)] post, AObj.mp true off, AObj.rows false 2 [[AVal.map 4, AVal.slc b 5 2 0 (List.length ps) none]], AObj.mp true mem2, AObj.rows true 2 ps]) :=
  (evalF_ok followed Tryd.func13 (by kernel_rfl) (show evalF Tryd.prog Tryd.f13 ([AVal.ptr 0 2 0 0, opw 2 s c u w0 w0 w0 0 0]) (H6 pre post s c off mem b ps) ([Dec.use [0, 1, 2, 3, 4, 5] [AVal.ptr 0 2 0 0] (H6 pre post s c off mem b ps) (AVal.bool true) (H6 pre post s c off mem b ps), Dec.br false, Dec.use [] [AVal.agg [iqPE 2, AVal.str s, AVal.str c, AVal.str u, AVal.str w0, AVal.str w0, AVal.str w0, iqPE 0, iqPE 0]] [] (iqPE 0) [], Dec.br false, Dec.rw (AVal.tuple [AVal.ptr 3 2 0 0, AVal.tt true]), Dec.br false, Dec.br false, Dec.br false, Dec.use [0, 3, 1, 2, 4, 5] [AVal.ptr 0 2 0 0, AVal.agg [AVal.str s, AVal.str c], AVal.ptr 1 2 0 0, AVal.agg [iqPE 2, AVal.str s, AVal.str c, AVal.str u, AVal.str w0, AVal.str w0, AVal.str w0, iqPE 0, iqPE 0]] (W6 pre post s c off mem b ps) (rep 0 0 nilps) (W6 pre post s c off mem2 b ps)]) = .ok (FRes.mk (AVal.agg [iqPE 0, iqPE 0, AVal.fsl true 2 [] none]) ([AObj.rows false 2 [[AVal.map 1, AVal.map 2]], AObj.mq pre [(ky s c, AVal.ptr 3 2 0 0)] post, AObj.mp true off, AObj.rows false 2 [[AVal.map 4, AVal.slc b 5 2 0 (List.length ps) none]], AObj.mp true mem2, AObj.rows true 2 ps, AObj.rows true 9 [[iqPE 2, AVal.str s, AVal.str c, AVal.str u, AVal.str w0, AVal.str w0, AVal.str w0, iqPE 0, iqPE 0]], AObj.rows false 3 [[iqPE 0, iqPE 0, AVal.fsl true 2 [] none]], AObj.rows true 2 [[AVal.str s, AVal.str c]]]) (tr 4 ++ ((Owed.use (owed Tryd.prog 6) 31 [0, 3, 1, 2, 4, 5] [AVal.ptr 0 2 0 0, AVal.agg [AVal.str s, AVal.str c], AVal.ptr 3 2 0 0, AVal.agg [iqPE 2, AVal.str s, AVal.str c, AVal.str u, AVal.str w0, AVal.str w0, AVal.str w0, iqPE 0, iqPE 0]] [AObj.rows false 2 [[AVal.map 1, AVal.map 2]], AObj.mq pre [(ky s c, AVal.ptr 3 2 0 0)] post, AObj.mp true off, AObj.rows false 2 [[AVal.map 4, AVal.slc b 5 2 0 (List.length ps) none]], AObj.mp true mem, AObj.rows true 2 ps, AObj.rows true 9 [[iqPE 2, AVal.str s, AVal.str c, AVal.str u, AVal.str w0, AVal.str w0, AVal.str w0, iqPE 0, iqPE 0]], AObj.rows false 3 [[iqPE 0, iqPE 0, AVal.fsl true 0 [] (some 0)]], AObj.rows true 2 [[AVal.str s, AVal.str c]]] [AVal.ptr 0 2 0 0, AVal.agg [AVal.str s, AVal.str c], AVal.ptr 1 2 0 0, AVal.agg [iqPE 2, AVal.str s, AVal.str c, AVal.str u, AVal.str w0, AVal.str w0, AVal.str w0, iqPE 0, iqPE 0]] (W6 pre post s c off mem b ps) (AVal.agg [iqPE 0, iqPE 0, AVal.fsl true 2 [] none]) [AObj.rows false 2 [[AVal.map 2, AVal.map 3]], AObj.rows false 2 [[AVal.map 4, AVal.slc b 5 2 0 (List.length ps) none]], AObj.mq pre [(AVal.agg [AVal.str s, AVal.str c], AVal.ptr 1 2 0 0)] post, AObj.mp true off, AObj.mp true mem2, AObj.rows true 2 ps]) :: (tr 6 ++ ((false = false) :: ((false = false) :: ((false = false) :: (tr 15 ++ ((AVal.tuple [Option.getD (afind (ky s c) (pre ++ [(ky s c, AVal.ptr 3 2 0 0)] ++ post)) AVal.nilp, AVal.tt (Option.isSome (afind (ky s c) (pre ++ [(ky s c, AVal.ptr 3 2 0 0)] ++ post)))] = AVal.tuple [AVal.ptr 3 2 0 0, AVal.tt true]) :: (((List.all (pre ++ [(ky s c, AVal.ptr 3 2 0 0)] ++ post) fun p => keyKind Tryd.prog 69 (Prod.fst p)) = true) :: (tr 28 ++ ((false = false) :: ((Owed.use (owed Tryd.prog 6) 21 [] [AVal.agg [iqPE 2, AVal.str s, AVal.str c, AVal.str u, AVal.str w0, AVal.str w0, AVal.str w0, iqPE 0, iqPE 0]] [AObj.rows false 2 [[AVal.map 1, AVal.map 2]], AObj.mq pre [(ky s c, AVal.ptr 3 2 0 0)] post, AObj.mp true off, AObj.rows false 2 [[AVal.map 4, AVal.slc b 5 2 0 (List.length ps) none]], AObj.mp true mem, AObj.rows true 2 ps, AObj.rows true 9 [[iqPE 2, AVal.str s, AVal.str c, AVal.str u, AVal.str w0, AVal.str w0, AVal.str w0, iqPE 0, iqPE 0]], AObj.rows false 3 [[iqPE 0, iqPE 0, AVal.fsl true 0 [] (some 0)]]] [AVal.agg [iqPE 2, AVal.str s, AVal.str c, AVal.str u, AVal.str w0, AVal.str w0, AVal.str w0, iqPE 0, iqPE 0]] [] (iqPE 0) []) :: (tr 3 ++ ((false = false) :: ((Owed.use (owed Tryd.prog 6) 27 [0, 1, 2, 3, 4, 5] [AVal.ptr 0 2 0 0] [AObj.rows false 2 [[AVal.map 1, AVal.map 2]], AObj.mq pre [(ky s c, AVal.ptr 3 2 0 0)] post, AObj.mp true off, AObj.rows false 2 [[AVal.map 4, AVal.slc b 5 2 0 (List.length ps) none]], AObj.mp true mem, AObj.rows true 2 ps, AObj.rows true 9 [[iqPE 2, AVal.str s, AVal.str c, AVal.str u, AVal.str w0, AVal.str w0, AVal.str w0, iqPE 0, iqPE 0]], AObj.rows false 3 [[iqPE 0, iqPE 0, AVal.fsl true 0 [] (some 0)]]] [AVal.ptr 0 2 0 0] (H6 pre post s c off mem b ps) (AVal.bool true) (H6 pre post s c off mem b ps)) :: [])))))))))))))))) by kernel_rfl) (allP_of (trC 4 ⟨⟨h1, rfl, rfl, rfl⟩, (trC 6 ⟨rfl, ⟨rfl, ⟨rfl, (trC 15 ⟨h2, ⟨h3, (trC 28 ⟨rfl, ⟨⟨h4, rfl, rfl, rfl⟩, (trC 3 ⟨rfl, ⟨⟨h5, rfl, rfl, rfl⟩, trivial⟩⟩)⟩⟩)⟩⟩)⟩⟩⟩)⟩))).move ([0, 1, 2, 3, 4, 5]) (by kernel_rfl) (by kernel_rfl) (by kernel_rfl)

def dJ_T (pre : Ents) (post : Ents) (s : ByteArray) (c : ByteArray) (u : ByteArray) (off : Ents) (mem : Ents) (mem2 : Ents) (b : Bool) (ps : List (List AVal)) (Q : AVal → AState → Prop) : Prop := (FOk Tryd.prog 27 [AVal.ptr 0 2 0 0] [AObj.rows false 2 [[AVal.map 1, AVal.map 2]], AObj.mq pre [(AVal.agg [AVal.str s, AVal.str c], AVal.ptr 3 2 0 0)] post, AObj.mp true off, AObj.rows false 2 [[AVal.map 4, AVal.slc b 5 2 0 (List.length ps) none]], AObj.mp true mem, AObj.rows true 2 ps] (AVal.bool true) [AObj.rows false 2 [[AVal.map 1, AVal.map 2]], AObj.mq pre [(AVal.agg [AVal.str s, AVal.str c], AVal.ptr 3 2 0 0)] post, AObj.mp true off, AObj.rows false 2 [[AVal.map 4, AVal.slc b 5 2 0 (List.length ps) none]], AObj.mp true mem, AObj.rows true 2 ps]) ∧ (FOk Tryd.prog 21 [AVal.agg [AVal.int IntKind.i64 2, AVal.str s, AVal.str c, AVal.str u, AVal.str w0, AVal.str w0, AVal.str w0, AVal.int IntKind.i64 0, AVal.int IntKind.i64 0]] [] (AVal.int IntKind.i64 0) []) ∧ ((List.all (pre ++ [(AVal.agg [AVal.str s, AVal.str c], AVal.ptr 3 2 0 0)] ++ post) fun p => keyKind Tryd.prog 69 (Prod.fst p)) = true) ∧ (AVal.tuple [Option.getD (afind (AVal.agg [AVal.str s, AVal.str c]) (pre ++ [(AVal.agg [AVal.str s, AVal.str c], AVal.ptr 3 2 0 0)] ++ post)) AVal.nilp, AVal.tt (Option.isSome (afind (AVal.agg [AVal.str s, AVal.str c]) (pre ++ [(AVal.agg [AVal.str s, AVal.str c], AVal.ptr 3 2 0 0)] ++ post)))] = AVal.tuple [AVal.ptr 3 2 0 0, AVal.tt true]) ∧ (FOk Tryd.prog 31 [AVal.ptr 0 2 0 0, AVal.agg [AVal.str s, AVal.str c], AVal.ptr 1 2 0 0, AVal.agg [AVal.int IntKind.i64 2, AVal.str s, AVal.str c, AVal.str u, AVal.str w0, AVal.str w0, AVal.str w0, AVal.int IntKind.i64 0, AVal.int IntKind.i64 0]] [AObj.rows false 2 [[AVal.map 2, AVal.map 3]], AObj.rows false 2 [[AVal.map 4, AVal.slc b 5 2 0 (List.length ps) none]], AObj.mq pre [(AVal.agg [AVal.str s, AVal.str c], AVal.ptr 1 2 0 0)] post, AObj.mp true off, AObj.mp true mem, AObj.rows true 2 ps] (AVal.agg [AVal.int IntKind.i64 0, AVal.int IntKind.i64 0, AVal.fsl true 2 [] none]) [AObj.rows false 2 [[AVal.map 2, AVal.map 3]], AObj.rows false 2 [[AVal.map 4, AVal.slc b 5 2 0 (List.length ps) none]], AObj.mq pre [(AVal.agg [AVal.str s, AVal.str c], AVal.ptr 1 2 0 0)] post, AObj.mp true off, AObj.mp true mem2, AObj.rows true 2 ps]) ∧ Q (AVal.agg [AVal.int IntKind.i64 0, AVal.int IntKind.i64 0, AVal.fsl true 2 [] none]) ([AObj.rows false 2 [[AVal.map 1, AVal.map 2]], AObj.mq pre [(AVal.agg [AVal.str s, AVal.str c], AVal.ptr 3 2 0 0)] post, AObj.mp true off, AObj.rows false 2 [[AVal.map 4, AVal.slc b 5 2 0 (List.length ps) none]], AObj.mp true mem2, AObj.rows true 2 ps])
theorem dJ_wp (pre : Ents) (post : Ents) (s : ByteArray) (c : ByteArray) (u : ByteArray) (off : Ents) (mem : Ents) (mem2 : Ents) (b : Bool) (ps : List (List AVal)) {Q : AVal → AState → Prop} (h : dJ_T pre post s c u off mem mem2 b ps Q) : ∃ r σ', FOk Tryd.prog 13 ([AVal.ptr 0 2 0 0, opw 2 s c u w0 w0 w0 0 0]) (H6 pre post s c off mem b ps) r σ' ∧ Q r σ' :=
  ⟨_, _, dJ_1 pre post s c u off mem mem2 b ps (h.2.2.2.2.1) (h.2.2.2.1) (h.2.2.1) (h.2.1) (h.1), h.2.2.2.2.2⟩


theorem dP_1 (pre : Ents) (post : Ents) (s : ByteArray) (c : ByteArray) (u : ByteArray) (x : ByteArray) (off : Ents) (mem : Ents) (b : Bool) (ps : List (List AVal)) (i : Int)
    (h1 : FOk Tryd.prog 31 [AVal.ptr 0 2 0 0, AVal.agg [AVal.str s, AVal.str c], AVal.ptr 1 2 0 0, AVal.agg [iqPE 3, AVal.str s, AVal.str c, AVal.str u, AVal.str x, AVal.str w0, AVal.str w0, iqPE 0, iqPE 0]] (W6 pre post s c off mem b ps) (AVal.agg [iqPE 0, iqPE i, AVal.fsl true 2 [] none]) [AObj.rows false 2 [[AVal.map 2, AVal.map 3]], AObj.rows false 2 [[AVal.map 4, AVal.slc (b && false) 6 2 0 (List.length ps + 1) none]], AObj.mq pre [(AVal.agg [AVal.str s, AVal.str c], AVal.ptr 1 2 0 0)] post, AObj.mp true off, AObj.mp true mem, AObj.dead, AObj.rows true 2 (ps ++ [[AVal.str u, AVal.str x]])])
    (h2 : AVal.tuple [Option.getD (afind (ky s c) (pre ++ [(ky s c, AVal.ptr 3 2 0 0)] ++ post)) AVal.nilp, AVal.tt (Option.isSome (afind (ky s c) (pre ++ [(ky s c, AVal.ptr 3 2 0 0)] ++ post)))] = AVal.tuple [AVal.ptr 3 2 0 0, AVal.tt true])
    (h3 : (List.all (pre ++ [(ky s c, AVal.ptr 3 2 0 0)] ++ post) fun p => keyKind Tryd.prog 69 (Prod.fst p)) = true)
    (h4 : FOk Tryd.prog 21 [AVal.agg [iqPE 3, AVal.str s, AVal.str c, AVal.str u, AVal.str x, AVal.str w0, AVal.str w0, iqPE 0, iqPE 0]] [] (iqPE 0) [])
    (h5 : FOk Tryd.prog 27 [AVal.ptr 0 2 0 0] (H6 pre post s c off mem b ps) (AVal.bool true) (H6 pre post s c off mem b ps)) :
    FOk Tryd.prog 13 ([AVal.ptr 0 2 0 0, opw 3 s c u x w0 w0 0 0]) (H6 pre post s c off mem b ps) (AVal.agg [iqPE 0, iqPE i, AVal.fsl true 2 [] none]) ([AObj.rows false 2 [[AVal.map 1, AVal.map 2]], AObj.mq pre [(ky s c, AVal.ptr 3 2 0 0)] post, AObj.mp true off, AObj.rows false 2 [[AVal.map 4, AVal.slc (b && false) 6 2 0 (List.length ps + 1) none]], AObj.mp true mem, AObj.dead, AObj.rows true 2 (ps ++ [[AVal.str u, AVal.str x]])]) :=
  (evalF_ok followed Tryd.func13 (by kernel_rfl) (show evalF Tryd.prog Tryd.f13 ([AVal.ptr 0 2 0 0, opw 3 s c u x w0 w0 0 0]) (H6 pre post s c off mem b ps) ([Dec.use [0, 1, 2, 3, 4, 5] [AVal.ptr 0 2 0 0] (H6 pre post s c off mem b ps) (AVal.bool true) (H6 pre post s c off mem b ps), Dec.br false, Dec.use [] [AVal.agg [iqPE 3, AVal.str s, AVal.str c, AVal.str u, AVal.str x, AVal.str w0, AVal.str w0, iqPE 0, iqPE 0]] [] (iqPE 0) [], Dec.br false, Dec.rw (AVal.tuple [AVal.ptr 3 2 0 0, AVal.tt true]), Dec.br false, Dec.br false, Dec.br false, Dec.use [0, 3, 1, 2, 4, 5] [AVal.ptr 0 2 0 0, AVal.agg [AVal.str s, AVal.str c], AVal.ptr 1 2 0 0, AVal.agg [iqPE 3, AVal.str s, AVal.str c, AVal.str u, AVal.str x, AVal.str w0, AVal.str w0, iqPE 0, iqPE 0]] (W6 pre post s c off mem b ps) (rep 0 i nilps) [AObj.rows false 2 [[AVal.map 2, AVal.map 3]], AObj.rows false 2 [[AVal.map 4, AVal.slc (b && false) 6 2 0 (List.length ps + 1) none]], AObj.mq pre [(ky s c, AVal.ptr 1 2 0 0)] post, AObj.mp true off, AObj.mp true mem, AObj.dead, AObj.rows true 2 (ps ++ [[AVal.str u, AVal.str x]])]]) = .ok (FRes.mk (AVal.agg [iqPE 0, iqPE i, AVal.fsl true 2 [] none]) ([AObj.rows false 2 [[AVal.map 1, AVal.map 2]], AObj.mq pre [(ky s c, AVal.ptr 3 2 0 0)] post, AObj.mp true off, AObj.rows false 2 [[AVal.map 4, AVal.slc (b && false) 9 2 0 (List.length ps + 1) none]], AObj.mp true mem, AObj.dead, AObj.rows true 9 [[iqPE 3, AVal.str s, AVal.str c, AVal.str u, AVal.str x, AVal.str w0, AVal.str w0, iqPE 0, iqPE 0]], AObj.rows false 3 [[iqPE 0, iqPE i, AVal.fsl true 2 [] none]], AObj.rows true 2 [[AVal.str s, AVal.str c]], AObj.rows true 2 (ps ++ [[AVal.str u, AVal.str x]])]) (tr 4 ++ ((Owed.use (owed Tryd.prog 6) 31 [0, 3, 1, 2, 4, 5] [AVal.ptr 0 2 0 0, AVal.agg [AVal.str s, AVal.str c], AVal.ptr 3 2 0 0, AVal.agg [iqPE 3, AVal.str s, AVal.str c, AVal.str u, AVal.str x, AVal.str w0, AVal.str w0, iqPE 0, iqPE 0]] [AObj.rows false 2 [[AVal.map 1, AVal.map 2]], AObj.mq pre [(ky s c, AVal.ptr 3 2 0 0)] post, AObj.mp true off, AObj.rows false 2 [[AVal.map 4, AVal.slc b 5 2 0 (List.length ps) none]], AObj.mp true mem, AObj.rows true 2 ps, AObj.rows true 9 [[iqPE 3, AVal.str s, AVal.str c, AVal.str u, AVal.str x, AVal.str w0, AVal.str w0, iqPE 0, iqPE 0]], AObj.rows false 3 [[iqPE 0, iqPE 0, AVal.fsl true 0 [] (some 0)]], AObj.rows true 2 [[AVal.str s, AVal.str c]]] [AVal.ptr 0 2 0 0, AVal.agg [AVal.str s, AVal.str c], AVal.ptr 1 2 0 0, AVal.agg [iqPE 3, AVal.str s, AVal.str c, AVal.str u, AVal.str x, AVal.str w0, AVal.str w0, iqPE 0, iqPE 0]] (W6 pre post s c off mem b ps) (AVal.agg [iqPE 0, iqPE i, AVal.fsl true 2 [] none]) [AObj.rows false 2 [[AVal.map 2, AVal.map 3]], AObj.rows false 2 [[AVal.map 4, AVal.slc (b && false) 6 2 0 (List.length ps + 1) none]], AObj.mq pre [(AVal.agg [AVal.str s, AVal.str c], AVal.ptr 1 2 0 0)] post, AObj.mp true off, AObj.mp true mem, AObj.dead, AObj.rows true 2 (ps ++ [[AVal.str u, AVal.str x]])]) :: (tr 6 ++ ((false = false) :: ((false = false) :: ((false = false) :: (tr 15 ++ ((AVal.tuple [Option.getD (afind (ky s c) (pre ++ [(ky s c, AVal.ptr 3 2 0 0)] ++ post)) AVal.nilp, AVal.tt (Option.isSome (afind (ky s c) (pre ++ [(ky s c, AVal.ptr 3 2 0 0)] ++ post)))] = AVal.tuple [AVal.ptr 3 2 0 0, AVal.tt true]) :: (((List.all (pre ++ [(ky s c, AVal.ptr 3 2 0 0)] ++ post) fun p => keyKind Tryd.prog 69 (Prod.fst p)) = true) :: (tr 28 ++ ((false = false) :: ((Owed.use (owed Tryd.prog 6) 21 [] [AVal.agg [iqPE 3, AVal.str s, AVal.str c, AVal.str u, AVal.str x, AVal.str w0, AVal.str w0, iqPE 0, iqPE 0]] [AObj.rows false 2 [[AVal.map 1, AVal.map 2]], AObj.mq pre [(ky s c, AVal.ptr 3 2 0 0)] post, AObj.mp true off, AObj.rows false 2 [[AVal.map 4, AVal.slc b 5 2 0 (List.length ps) none]], AObj.mp true mem, AObj.rows true 2 ps, AObj.rows true 9 [[iqPE 3, AVal.str s, AVal.str c, AVal.str u, AVal.str x, AVal.str w0, AVal.str w0, iqPE 0, iqPE 0]], AObj.rows false 3 [[iqPE 0, iqPE 0, AVal.fsl true 0 [] (some 0)]]] [AVal.agg [iqPE 3, AVal.str s, AVal.str c, AVal.str u, AVal.str x, AVal.str w0, AVal.str w0, iqPE 0, iqPE 0]] [] (iqPE 0) []) :: (tr 3 ++ ((false = false) :: ((Owed.use (owed Tryd.prog 6) 27 [0, 1, 2, 3, 4, 5] [AVal.ptr 0 2 0 0] [AObj.rows false 2 [[AVal.map 1, AVal.map 2]], AObj.mq pre [(ky s c, AVal.ptr 3 2 0 0)] post, AObj.mp true off, AObj.rows false 2 [[AVal.map 4, AVal.slc b 5 2 0 (List.length ps) none]], AObj.mp true mem, AObj.rows true 2 ps, AObj.rows true 9 [[iqPE 3, AVal.str s, AVal.str c, AVal.str u, AVal.str x, AVal.str w0, AVal.str w0, iqPE 0, iqPE 0]], AObj.rows false 3 [[iqPE 0, iqPE 0, AVal.fsl true 0 [] (some 0)]]] [AVal.ptr 0 2 0 0] (H6 pre post s c off mem b ps) (AVal.bool true) (H6 pre post s c off mem b ps)) :: [])))))))))))))))) by kernel_rfl) (allP_of (trC 4 ⟨⟨h1, rfl, rfl, rfl⟩, (trC 6 ⟨rfl, ⟨rfl, ⟨rfl, (trC 15 ⟨h2, ⟨h3, (trC 28 ⟨rfl, ⟨⟨h4, rfl, rfl, rfl⟩, (trC 3 ⟨rfl, ⟨⟨h5, rfl, rfl, rfl⟩, trivial⟩⟩)⟩⟩)⟩⟩)⟩⟩⟩)⟩))).move ([0, 1, 2, 3, 4, 5, 9]) (by kernel_rfl) (by kernel_rfl) (by kernel_rfl)

def dP_T (pre : Ents) (post : Ents) (s : ByteArray) (c : ByteArray) (u : ByteArray) (x : ByteArray) (off : Ents) (mem : Ents) (b : Bool) (ps : List (List AVal)) (i : Int) (Q : AVal → AState → Prop) : Prop := (FOk Tryd.prog 27 [AVal.ptr 0 2 0 0] [AObj.rows false 2 [[AVal.map 1, AVal.map 2]], AObj.mq pre [(AVal.agg [AVal.str s, AVal.str c], AVal.ptr 3 2 0 0)] post, AObj.mp true off, AObj.rows false 2 [[AVal.map 4, AVal.slc b 5 2 0 (List.length ps) none]], AObj.mp true mem, AObj.rows true 2 ps] (AVal.bool true) [AObj.rows false 2 [[AVal.map 1, AVal.map 2]], AObj.mq pre [(AVal.agg [AVal.str s, AVal.str c], AVal.ptr 3 2 0 0)] post, AObj.mp true off, AObj.rows false 2 [[AVal.map 4, AVal.slc b 5 2 0 (List.length ps) none]], AObj.mp true mem, AObj.rows true 2 ps]) ∧ (FOk Tryd.prog 21 [AVal.agg [AVal.int IntKind.i64 3, AVal.str s, AVal.str c, AVal.str u, AVal.str x, AVal.str w0, AVal.str w0, AVal.int IntKind.i64 0, AVal.int IntKind.i64 0]] [] (AVal.int IntKind.i64 0) []) ∧ ((List.all (pre ++ [(AVal.agg [AVal.str s, AVal.str c], AVal.ptr 3 2 0 0)] ++ post) fun p => keyKind Tryd.prog 69 (Prod.fst p)) = true) ∧ (AVal.tuple [Option.getD (afind (AVal.agg [AVal.str s, AVal.str c]) (pre ++ [(AVal.agg [AVal.str s, AVal.str c], AVal.ptr 3 2 0 0)] ++ post)) AVal.nilp, AVal.tt (Option.isSome (afind (AVal.agg [AVal.str s, AVal.str c]) (pre ++ [(AVal.agg [AVal.str s, AVal.str c], AVal.ptr 3 2 0 0)] ++ post)))] = AVal.tuple [AVal.ptr 3 2 0 0, AVal.tt true]) ∧ (FOk Tryd.prog 31 [AVal.ptr 0 2 0 0, AVal.agg [AVal.str s, AVal.str c], AVal.ptr 1 2 0 0, AVal.agg [AVal.int IntKind.i64 3, AVal.str s, AVal.str c, AVal.str u, AVal.str x, AVal.str w0, AVal.str w0, AVal.int IntKind.i64 0, AVal.int IntKind.i64 0]] [AObj.rows false 2 [[AVal.map 2, AVal.map 3]], AObj.rows false 2 [[AVal.map 4, AVal.slc b 5 2 0 (List.length ps) none]], AObj.mq pre [(AVal.agg [AVal.str s, AVal.str c], AVal.ptr 1 2 0 0)] post, AObj.mp true off, AObj.mp true mem, AObj.rows true 2 ps] (AVal.agg [AVal.int IntKind.i64 0, AVal.int IntKind.i64 i, AVal.fsl true 2 [] none]) [AObj.rows false 2 [[AVal.map 2, AVal.map 3]], AObj.rows false 2 [[AVal.map 4, AVal.slc (b && false) 6 2 0 (List.length ps + 1) none]], AObj.mq pre [(AVal.agg [AVal.str s, AVal.str c], AVal.ptr 1 2 0 0)] post, AObj.mp true off, AObj.mp true mem, AObj.dead, AObj.rows true 2 (ps ++ [[AVal.str u, AVal.str x]])]) ∧ Q (AVal.agg [AVal.int IntKind.i64 0, AVal.int IntKind.i64 i, AVal.fsl true 2 [] none]) ([AObj.rows false 2 [[AVal.map 1, AVal.map 2]], AObj.mq pre [(AVal.agg [AVal.str s, AVal.str c], AVal.ptr 3 2 0 0)] post, AObj.mp true off, AObj.rows false 2 [[AVal.map 4, AVal.slc (b && false) 6 2 0 (List.length ps + 1) none]], AObj.mp true mem, AObj.dead, AObj.rows true 2 (ps ++ [[AVal.str u, AVal.str x]])])
theorem dP_wp (pre : Ents) (post : Ents) (s : ByteArray) (c : ByteArray) (u : ByteArray) (x : ByteArray) (off : Ents) (mem : Ents) (b : Bool) (ps : List (List AVal)) (i : Int) {Q : AVal → AState → Prop} (h : dP_T pre post s c u x off mem b ps i Q) : ∃ r σ', FOk Tryd.prog 13 ([AVal.ptr 0 2 0 0, opw 3 s c u x w0 w0 0 0]) (H6 pre post s c off mem b ps) r σ' ∧ Q r σ' :=
  ⟨_, _, dP_1 pre post s c u x off mem b ps i (h.2.2.2.2.1) (h.2.2.2.1) (h.2.2.1) (h.2.1) (h.1), h.2.2.2.2.2⟩


end Go.MN
end

section
set_option linter.unusedVariables false
set_option maxRecDepth 100000
namespace Go.MN
open Go Go.Abs Go.Proofs
abbrev HO (at_ off mem : Ents) (bs : List Nat) (c : Nat) (seen : List Nat) (u : ByteArray) (ps : List (List AVal)) (b : Bool) : AState := [.rows false 2 [[.map 1, .map 2]], .mpn false at_ bs c, .mp true off, .rows false 2 [[.map 4, .slc b 5 2 0 ps.length none]], .mp true mem, .rows true 2 ps, .rows true 9 [[.int .i64 7, .str w0, .str w0, .str u, .str w0, .str w0, .str w0, .int .i64 0, .int .i64 0]], .rows false 3 [[.int .i64 0, .int .i64 0, .fsl true 0 [] (some 0)]], .miter (some 1) c seen c]
abbrev H6n (at_ off mem : Ents) (bs : List Nat) (c : Nat) (ps : List (List AVal)) (b : Bool) : AState := [.rows false 2 [[.map 1, .map 2]], .mpn false at_ bs c, .mp true off, .rows false 2 [[.map 4, .slc b 5 2 0 ps.length none]], .mp true mem, .rows true 2 ps]
abbrev RO : Regs := mkR 97 [(3, .ptr 6 9 0 0), (4, .ptr 7 3 0 0), (77, .ptr 8 1 0 0)]
abbrev iqPF : Int → AVal := AVal.int IntKind.i64
theorem offB_1 (s : ByteArray) (y : ByteArray) (off : Ents) (mem : Ents) (b : Nat) (c : Nat) (u : ByteArray) (ps : List (List AVal)) (f : Bool)
    (h1 : (List.all mem fun p => keyKind Tryd.prog 9 (Prod.fst p)) = true)
    (h2 : Option.getD (entV [(AVal.agg [AVal.str s, AVal.str y], AVal.ptr 3 2 0 0)] [b] [b]) AVal.any = AVal.tuple [AVal.agg [AVal.str s, AVal.str y], AVal.ptr 3 2 0 0])
    (h3 : Option.isSome (entV [(AVal.agg [AVal.str s, AVal.str y], AVal.ptr 3 2 0 0)] [b] [b]) = true) :
    TripN Tryd.prog 6 (restOf (loopNo Tryd.f13 0)) (mkR 97 [(3, AVal.ptr 6 9 0 0), (4, AVal.ptr 7 3 0 0), (77, AVal.ptr 8 1 0 0), (79, AVal.tt true)]) (HO [(ky s y, AVal.ptr 3 2 0 0)] off mem [b] c [b] u ps f) (AExit.normal) (mkR 97 [(3, AVal.ptr 6 9 0 0), (4, AVal.ptr 7 3 0 0), (77, AVal.ptr 8 1 0 0)]) ([AObj.rows false 2 [[AVal.map 1, AVal.map 2]], AObj.mpn false [(AVal.agg [AVal.str s, AVal.str y], AVal.ptr 3 2 0 0)] [b] c, AObj.mp true off, AObj.rows false 2 [[AVal.map 4, AVal.slc f 5 2 0 (List.length ps) none]], AObj.mp true (adel (AVal.str u) mem), AObj.rows true 2 ps, AObj.rows true 9 [[iqPF 7, AVal.str w0, AVal.str w0, AVal.str u, AVal.str w0, AVal.str w0, AVal.str w0, iqPF 0, iqPF 0]], AObj.rows false 3 [[iqPF 0, iqPF 0, AVal.fsl true 0 [] (some 0)]], AObj.miter (some 1) c [b] c]) :=
  evalT (st := St.mk (mkR 97 [(3, AVal.ptr 6 9 0 0), (4, AVal.ptr 7 3 0 0), (77, AVal.ptr 8 1 0 0), (79, AVal.tt true)]) (HO [(ky s y, AVal.ptr 3 2 0 0)] off mem [b] c [b] u ps f) ([Dec.rw (AVal.tuple [ky s y, AVal.ptr 3 2 0 0])]) []) (st' := St.mk (mkR 97 [(3, AVal.ptr 6 9 0 0), (4, AVal.ptr 7 3 0 0), (9, AVal.ptr 3 2 0 0), (77, AVal.ptr 8 1 0 0), (79, AVal.tt true), (80, AVal.tuple [AVal.agg [AVal.str s, AVal.str y], AVal.ptr 3 2 0 0]), (81, AVal.ptr 3 2 0 0), (82, AVal.ptr 3 2 0 0), (83, AVal.ptr 3 2 0 0), (84, AVal.ptr 3 2 0 0), (85, AVal.map 4), (86, AVal.ptr 6 9 0 3), (87, AVal.str u)]) ([AObj.rows false 2 [[AVal.map 1, AVal.map 2]], AObj.mpn false [(AVal.agg [AVal.str s, AVal.str y], AVal.ptr 3 2 0 0)] [b] c, AObj.mp true off, AObj.rows false 2 [[AVal.map 4, AVal.slc f 5 2 0 (List.length ps) none]], AObj.mp true (adel (AVal.str u) mem), AObj.rows true 2 ps, AObj.rows true 9 [[iqPF 7, AVal.str w0, AVal.str w0, AVal.str u, AVal.str w0, AVal.str w0, AVal.str w0, iqPF 0, iqPF 0]], AObj.rows false 3 [[iqPF 0, iqPF 0, AVal.fsl true 0 [] (some 0)]], AObj.miter (some 1) c [b] c]) ([]) (tr 2 ++ (((List.all mem fun p => keyKind Tryd.prog 9 (Prod.fst p)) = true) :: (tr 22 ++ ((Option.getD (entV [(AVal.agg [AVal.str s, AVal.str y], AVal.ptr 3 2 0 0)] [b] [b]) AVal.any = AVal.tuple [AVal.agg [AVal.str s, AVal.str y], AVal.ptr 3 2 0 0]) :: ((Option.isSome (entV [(AVal.agg [AVal.str s, AVal.str y], AVal.ptr 3 2 0 0)] [b] [b]) = true) :: ((c = c) :: []))))))) followed (by kernel_rfl) (allP_of (trC 2 ⟨h1, (trC 22 ⟨h2, ⟨h3, ⟨rfl, trivial⟩⟩⟩)⟩)) (keepM 97 [3, 4, 77]) ([0, 1, 2, 3, 4, 5, 6, 7, 8]) (by kernel_rfl) (by kernel_rfl) (by kernel_rfl)

def offB_T (s : ByteArray) (y : ByteArray) (off : Ents) (mem : Ents) (b : Nat) (c : Nat) (u : ByteArray) (ps : List (List AVal)) (f : Bool) (Q : AExit → Regs → AState → Prop) : Prop := (Option.isSome (entV [(AVal.agg [AVal.str s, AVal.str y], AVal.ptr 3 2 0 0)] [b] [b]) = true) ∧ (Option.getD (entV [(AVal.agg [AVal.str s, AVal.str y], AVal.ptr 3 2 0 0)] [b] [b]) AVal.any = AVal.tuple [AVal.agg [AVal.str s, AVal.str y], AVal.ptr 3 2 0 0]) ∧ ((List.all mem fun p => keyKind Tryd.prog 9 (Prod.fst p)) = true) ∧ Q (AExit.normal) (mkR 97 [(3, AVal.ptr 6 9 0 0), (4, AVal.ptr 7 3 0 0), (77, AVal.ptr 8 1 0 0)]) ([AObj.rows false 2 [[AVal.map 1, AVal.map 2]], AObj.mpn false [(AVal.agg [AVal.str s, AVal.str y], AVal.ptr 3 2 0 0)] [b] c, AObj.mp true off, AObj.rows false 2 [[AVal.map 4, AVal.slc f 5 2 0 (List.length ps) none]], AObj.mp true (adel (AVal.str u) mem), AObj.rows true 2 ps, AObj.rows true 9 [[AVal.int IntKind.i64 7, AVal.str w0, AVal.str w0, AVal.str u, AVal.str w0, AVal.str w0, AVal.str w0, AVal.int IntKind.i64 0, AVal.int IntKind.i64 0]], AObj.rows false 3 [[AVal.int IntKind.i64 0, AVal.int IntKind.i64 0, AVal.fsl true 0 [] (some 0)]], AObj.miter (some 1) c [b] c])
theorem offB_wp (s : ByteArray) (y : ByteArray) (off : Ents) (mem : Ents) (b : Nat) (c : Nat) (u : ByteArray) (ps : List (List AVal)) (f : Bool) {Q : AExit → Regs → AState → Prop} (h : offB_T s y off mem b c u ps f Q) : ∃ e rg' σ', TripN Tryd.prog 6 (restOf (loopNo Tryd.f13 0)) (mkR 97 [(3, AVal.ptr 6 9 0 0), (4, AVal.ptr 7 3 0 0), (77, AVal.ptr 8 1 0 0), (79, AVal.tt true)]) (HO [(ky s y, AVal.ptr 3 2 0 0)] off mem [b] c [b] u ps f) e rg' σ' ∧ Q e rg' σ' :=
  ⟨_, _, _, offB_1 s y off mem b c u ps f (h.2.2.1) (h.2.1) (h.1), h.2.2.2⟩


theorem offX_1 (s : ByteArray) (y : ByteArray) (off : Ents) (mem : Ents) (b : Nat) (c : Nat) (u : ByteArray) (ps : List (List AVal)) (f : Bool) :
    TripN Tryd.prog 6 (restOf (loopNo Tryd.f13 0)) (mkR 97 [(3, AVal.ptr 6 9 0 0), (4, AVal.ptr 7 3 0 0), (77, AVal.ptr 8 1 0 0), (79, AVal.tt false)]) (HO [(ky s y, AVal.ptr 3 2 0 0)] off mem [b] c [b] u ps f) (AExit.exit 1) (mkR 97 [(3, AVal.ptr 6 9 0 0), (4, AVal.ptr 7 3 0 0), (77, AVal.ptr 8 1 0 0)]) ([AObj.rows false 2 [[AVal.map 1, AVal.map 2]], AObj.mpn false [(AVal.agg [AVal.str s, AVal.str y], AVal.ptr 3 2 0 0)] [b] c, AObj.mp true off, AObj.rows false 2 [[AVal.map 4, AVal.slc f 5 2 0 (List.length ps) none]], AObj.mp true mem, AObj.rows true 2 ps, AObj.rows true 9 [[iqPF 7, AVal.str w0, AVal.str w0, AVal.str u, AVal.str w0, AVal.str w0, AVal.str w0, iqPF 0, iqPF 0]], AObj.rows false 3 [[iqPF 0, iqPF 0, AVal.fsl true 0 [] (some 0)]], AObj.miter (some 1) c [b] c]) :=
  evalT (st := St.mk (mkR 97 [(3, AVal.ptr 6 9 0 0), (4, AVal.ptr 7 3 0 0), (77, AVal.ptr 8 1 0 0), (79, AVal.tt false)]) (HO [(ky s y, AVal.ptr 3 2 0 0)] off mem [b] c [b] u ps f) ([]) []) (st' := St.mk (mkR 97 [(3, AVal.ptr 6 9 0 0), (4, AVal.ptr 7 3 0 0), (77, AVal.ptr 8 1 0 0), (79, AVal.tt false)]) ([AObj.rows false 2 [[AVal.map 1, AVal.map 2]], AObj.mpn false [(AVal.agg [AVal.str s, AVal.str y], AVal.ptr 3 2 0 0)] [b] c, AObj.mp true off, AObj.rows false 2 [[AVal.map 4, AVal.slc f 5 2 0 (List.length ps) none]], AObj.mp true mem, AObj.rows true 2 ps, AObj.rows true 9 [[iqPF 7, AVal.str w0, AVal.str w0, AVal.str u, AVal.str w0, AVal.str w0, AVal.str w0, iqPF 0, iqPF 0]], AObj.rows false 3 [[iqPF 0, iqPF 0, AVal.fsl true 0 [] (some 0)]], AObj.miter (some 1) c [b] c]) ([]) []) followed (by kernel_rfl) (allP_of trivial) (keepM 97 [3, 4, 77]) ([0, 1, 2, 3, 4, 5, 6, 7, 8]) (by kernel_rfl) (by kernel_rfl) (by kernel_rfl)

def offX_T (s : ByteArray) (y : ByteArray) (off : Ents) (mem : Ents) (b : Nat) (c : Nat) (u : ByteArray) (ps : List (List AVal)) (f : Bool) (Q : AExit → Regs → AState → Prop) : Prop := Q (AExit.exit 1) (mkR 97 [(3, AVal.ptr 6 9 0 0), (4, AVal.ptr 7 3 0 0), (77, AVal.ptr 8 1 0 0)]) ([AObj.rows false 2 [[AVal.map 1, AVal.map 2]], AObj.mpn false [(AVal.agg [AVal.str s, AVal.str y], AVal.ptr 3 2 0 0)] [b] c, AObj.mp true off, AObj.rows false 2 [[AVal.map 4, AVal.slc f 5 2 0 (List.length ps) none]], AObj.mp true mem, AObj.rows true 2 ps, AObj.rows true 9 [[AVal.int IntKind.i64 7, AVal.str w0, AVal.str w0, AVal.str u, AVal.str w0, AVal.str w0, AVal.str w0, AVal.int IntKind.i64 0, AVal.int IntKind.i64 0]], AObj.rows false 3 [[AVal.int IntKind.i64 0, AVal.int IntKind.i64 0, AVal.fsl true 0 [] (some 0)]], AObj.miter (some 1) c [b] c])
theorem offX_wp (s : ByteArray) (y : ByteArray) (off : Ents) (mem : Ents) (b : Nat) (c : Nat) (u : ByteArray) (ps : List (List AVal)) (f : Bool) {Q : AExit → Regs → AState → Prop} (h : offX_T s y off mem b c u ps f Q) : ∃ e rg' σ', TripN Tryd.prog 6 (restOf (loopNo Tryd.f13 0)) (mkR 97 [(3, AVal.ptr 6 9 0 0), (4, AVal.ptr 7 3 0 0), (77, AVal.ptr 8 1 0 0), (79, AVal.tt false)]) (HO [(ky s y, AVal.ptr 3 2 0 0)] off mem [b] c [b] u ps f) e rg' σ' ∧ Q e rg' σ' :=
  ⟨_, _, _, offX_1 s y off mem b c u ps f, h⟩


theorem dO_1 (s : ByteArray) (y : ByteArray) (u : ByteArray) (ps : List (List AVal)) (mem : Ents) (f : Bool) (b : Nat) (c : Nat)
    (h1 : TripN Tryd.prog 6 (Code.loop (loopNo Tryd.f13 0)) (mkR 97 [(3, AVal.ptr 6 9 0 0), (4, AVal.ptr 7 3 0 0), (77, AVal.ptr 8 1 0 0)]) [AObj.rows false 2 [[AVal.map 1, AVal.map 2]], AObj.mpn false [(AVal.agg [AVal.str s, AVal.str y], AVal.ptr 3 2 0 0)] [b] c, AObj.mp true [(AVal.str u, AVal.tt true)], AObj.rows false 2 [[AVal.map 4, AVal.slc f 5 2 0 (List.length ps) none]], AObj.mp true mem, AObj.rows true 2 ps, AObj.rows true 9 [[iqPF 7, AVal.str w0, AVal.str w0, AVal.str u, AVal.str w0, AVal.str w0, AVal.str w0, iqPF 0, iqPF 0]], AObj.rows false 3 [[iqPF 0, iqPF 0, AVal.fsl true 0 [] (some 0)]], AObj.miter (some 1) c [] c] (AExit.exit 1) (mkR 97 [(3, AVal.ptr 6 9 0 0), (4, AVal.ptr 7 3 0 0), (77, AVal.ptr 8 1 0 0)]) [AObj.rows false 2 [[AVal.map 1, AVal.map 2]], AObj.mpn false [(AVal.agg [AVal.str s, AVal.str y], AVal.ptr 3 2 0 0)] [b] c, AObj.mp true [(AVal.str u, AVal.tt true)], AObj.rows false 2 [[AVal.map 4, AVal.slc f 5 2 0 (List.length ps) none]], AObj.mp true (adel (AVal.str u) mem), AObj.rows true 2 ps, AObj.rows true 9 [[iqPF 7, AVal.str w0, AVal.str w0, AVal.str u, AVal.str w0, AVal.str w0, AVal.str w0, iqPF 0, iqPF 0]], AObj.rows false 3 [[iqPF 0, iqPF 0, AVal.fsl true 0 [] (some 0)]], AObj.miter (some 1) c [b] c])
    (h2 : AVal.tuple [Option.getD (afind (AVal.agg [AVal.str w0, AVal.str w0]) [(AVal.agg [AVal.str s, AVal.str y], AVal.ptr 3 2 0 0)]) AVal.nilp, AVal.tt (Option.isSome (afind (AVal.agg [AVal.str w0, AVal.str w0]) [(AVal.agg [AVal.str s, AVal.str y], AVal.ptr 3 2 0 0)]))] = AVal.tuple [AVal.nilp, AVal.tt false])
    (h3 : FOk Tryd.prog 21 [AVal.agg [iqPF 7, AVal.str w0, AVal.str w0, AVal.str u, AVal.str w0, AVal.str w0, AVal.str w0, iqPF 0, iqPF 0]] [] (iqPF 0) [])
    (h4 : FOk Tryd.prog 27 [AVal.ptr 0 2 0 0] [AObj.rows false 2 [[AVal.map 1, AVal.map 2]], AObj.mpn false [(AVal.agg [AVal.str s, AVal.str y], AVal.ptr 3 2 0 0)] [b] c, AObj.mp true [], AObj.rows false 2 [[AVal.map 4, AVal.slc f 5 2 0 (List.length ps) none]], AObj.mp true mem, AObj.rows true 2 ps] (AVal.bool true) [AObj.rows false 2 [[AVal.map 1, AVal.map 2]], AObj.mpn false [(AVal.agg [AVal.str s, AVal.str y], AVal.ptr 3 2 0 0)] [b] c, AObj.mp true [], AObj.rows false 2 [[AVal.map 4, AVal.slc f 5 2 0 (List.length ps) none]], AObj.mp true mem, AObj.rows true 2 ps]) :
    FOk Tryd.prog 13 ([AVal.ptr 0 2 0 0, opw 7 w0 w0 u w0 w0 w0 0 0]) (H6n [(ky s y, AVal.ptr 3 2 0 0)] [] mem [b] c ps f) (AVal.agg [iqPF 0, iqPF 0, AVal.fsl true 2 [] none]) ([AObj.rows false 2 [[AVal.map 1, AVal.map 2]], AObj.mpn false [(AVal.agg [AVal.str s, AVal.str y], AVal.ptr 3 2 0 0)] [b] c, AObj.mp true [(AVal.str u, AVal.tt true)], AObj.rows false 2 [[AVal.map 4, AVal.slc f 5 2 0 (List.length ps) none]], AObj.mp true (adel (AVal.str u) mem), AObj.rows true 2 ps]) :=
  (evalF_ok followed Tryd.func13 (by kernel_rfl) (show evalF Tryd.prog Tryd.f13 ([AVal.ptr 0 2 0 0, opw 7 w0 w0 u w0 w0 w0 0 0]) (H6n [(ky s y, AVal.ptr 3 2 0 0)] [] mem [b] c ps f) ([Dec.use [0, 1, 2, 3, 4, 5] [AVal.ptr 0 2 0 0] [AObj.rows false 2 [[AVal.map 1, AVal.map 2]], AObj.mpn false [(AVal.agg [AVal.str s, AVal.str y], AVal.ptr 3 2 0 0)] [b] c, AObj.mp true [], AObj.rows false 2 [[AVal.map 4, AVal.slc f 5 2 0 (List.length ps) none]], AObj.mp true mem, AObj.rows true 2 ps] (AVal.bool true) [AObj.rows false 2 [[AVal.map 1, AVal.map 2]], AObj.mpn false [(AVal.agg [AVal.str s, AVal.str y], AVal.ptr 3 2 0 0)] [b] c, AObj.mp true [], AObj.rows false 2 [[AVal.map 4, AVal.slc f 5 2 0 (List.length ps) none]], AObj.mp true mem, AObj.rows true 2 ps], Dec.br false, Dec.use [] [AVal.agg [iqPF 7, AVal.str w0, AVal.str w0, AVal.str u, AVal.str w0, AVal.str w0, AVal.str w0, iqPF 0, iqPF 0]] [] (iqPF 0) [], Dec.br false, Dec.rw (AVal.tuple [AVal.nilp, AVal.tt false]), Dec.br false, Dec.br false, Dec.br true, Dec.rw (AVal.bool false), Dec.br false, Dec.compact (keepM 97 [3, 4, 77]) [0, 1, 2, 3, 4, 5, 6, 7, 9], Dec.loop (AExit.exit 1) RO (HO [(ky s y, AVal.ptr 3 2 0 0)] [gm u] (adel (AVal.str u) mem) [b] c [b] u ps f)]) = .ok (FRes.mk (AVal.agg [iqPF 0, iqPF 0, AVal.fsl true 2 [] none]) ([AObj.rows false 2 [[AVal.map 1, AVal.map 2]], AObj.mpn false [(AVal.agg [AVal.str s, AVal.str y], AVal.ptr 3 2 0 0)] [b] c, AObj.mp true [(AVal.str u, AVal.tt true)], AObj.rows false 2 [[AVal.map 4, AVal.slc f 5 2 0 (List.length ps) none]], AObj.mp true (adel (AVal.str u) mem), AObj.rows true 2 ps, AObj.rows true 9 [[iqPF 7, AVal.str w0, AVal.str w0, AVal.str u, AVal.str w0, AVal.str w0, AVal.str w0, iqPF 0, iqPF 0]], AObj.rows false 3 [[iqPF 0, iqPF 0, AVal.fsl true 0 [] (some 0)]], AObj.miter (some 1) c [b] c]) (tr 4 ++ ((Owed.loop (owed Tryd.prog 6) (loopNo Tryd.f13 0) (mkR 97 [(3, AVal.ptr 6 9 0 0), (4, AVal.ptr 7 3 0 0), (77, AVal.ptr 8 1 0 0)]) [AObj.rows false 2 [[AVal.map 1, AVal.map 2]], AObj.mpn false [(AVal.agg [AVal.str s, AVal.str y], AVal.ptr 3 2 0 0)] [b] c, AObj.mp true [(AVal.str u, AVal.tt true)], AObj.rows false 2 [[AVal.map 4, AVal.slc f 5 2 0 (List.length ps) none]], AObj.mp true mem, AObj.rows true 2 ps, AObj.rows true 9 [[iqPF 7, AVal.str w0, AVal.str w0, AVal.str u, AVal.str w0, AVal.str w0, AVal.str w0, iqPF 0, iqPF 0]], AObj.rows false 3 [[iqPF 0, iqPF 0, AVal.fsl true 0 [] (some 0)]], AObj.miter (some 1) c [] c] (AExit.exit 1) (mkR 97 [(3, AVal.ptr 6 9 0 0), (4, AVal.ptr 7 3 0 0), (77, AVal.ptr 8 1 0 0)]) [AObj.rows false 2 [[AVal.map 1, AVal.map 2]], AObj.mpn false [(AVal.agg [AVal.str s, AVal.str y], AVal.ptr 3 2 0 0)] [b] c, AObj.mp true [(AVal.str u, AVal.tt true)], AObj.rows false 2 [[AVal.map 4, AVal.slc f 5 2 0 (List.length ps) none]], AObj.mp true (adel (AVal.str u) mem), AObj.rows true 2 ps, AObj.rows true 9 [[iqPF 7, AVal.str w0, AVal.str w0, AVal.str u, AVal.str w0, AVal.str w0, AVal.str w0, iqPF 0, iqPF 0]], AObj.rows false 3 [[iqPF 0, iqPF 0, AVal.fsl true 0 [] (some 0)]], AObj.miter (some 1) c [b] c]) :: (tr 27 ++ ((false = false) :: (tr 2 ++ ((AVal.bool false = AVal.bool false) :: (tr 25 ++ ((false = false) :: ((false = false) :: (tr 15 ++ ((AVal.tuple [Option.getD (afind (AVal.agg [AVal.str w0, AVal.str w0]) [(AVal.agg [AVal.str s, AVal.str y], AVal.ptr 3 2 0 0)]) AVal.nilp, AVal.tt (Option.isSome (afind (AVal.agg [AVal.str w0, AVal.str w0]) [(AVal.agg [AVal.str s, AVal.str y], AVal.ptr 3 2 0 0)]))] = AVal.tuple [AVal.nilp, AVal.tt false]) :: (tr 29 ++ ((false = false) :: ((Owed.use (owed Tryd.prog 6) 21 [] [AVal.agg [iqPF 7, AVal.str w0, AVal.str w0, AVal.str u, AVal.str w0, AVal.str w0, AVal.str w0, iqPF 0, iqPF 0]] [AObj.rows false 2 [[AVal.map 1, AVal.map 2]], AObj.mpn false [(AVal.agg [AVal.str s, AVal.str y], AVal.ptr 3 2 0 0)] [b] c, AObj.mp true [], AObj.rows false 2 [[AVal.map 4, AVal.slc f 5 2 0 (List.length ps) none]], AObj.mp true mem, AObj.rows true 2 ps, AObj.rows true 9 [[iqPF 7, AVal.str w0, AVal.str w0, AVal.str u, AVal.str w0, AVal.str w0, AVal.str w0, iqPF 0, iqPF 0]], AObj.rows false 3 [[iqPF 0, iqPF 0, AVal.fsl true 0 [] (some 0)]]] [AVal.agg [iqPF 7, AVal.str w0, AVal.str w0, AVal.str u, AVal.str w0, AVal.str w0, AVal.str w0, iqPF 0, iqPF 0]] [] (iqPF 0) []) :: (tr 3 ++ ((false = false) :: ((Owed.use (owed Tryd.prog 6) 27 [0, 1, 2, 3, 4, 5] [AVal.ptr 0 2 0 0] [AObj.rows false 2 [[AVal.map 1, AVal.map 2]], AObj.mpn false [(AVal.agg [AVal.str s, AVal.str y], AVal.ptr 3 2 0 0)] [b] c, AObj.mp true [], AObj.rows false 2 [[AVal.map 4, AVal.slc f 5 2 0 (List.length ps) none]], AObj.mp true mem, AObj.rows true 2 ps, AObj.rows true 9 [[iqPF 7, AVal.str w0, AVal.str w0, AVal.str u, AVal.str w0, AVal.str w0, AVal.str w0, iqPF 0, iqPF 0]], AObj.rows false 3 [[iqPF 0, iqPF 0, AVal.fsl true 0 [] (some 0)]]] [AVal.ptr 0 2 0 0] [AObj.rows false 2 [[AVal.map 1, AVal.map 2]], AObj.mpn false [(AVal.agg [AVal.str s, AVal.str y], AVal.ptr 3 2 0 0)] [b] c, AObj.mp true [], AObj.rows false 2 [[AVal.map 4, AVal.slc f 5 2 0 (List.length ps) none]], AObj.mp true mem, AObj.rows true 2 ps] (AVal.bool true) [AObj.rows false 2 [[AVal.map 1, AVal.map 2]], AObj.mpn false [(AVal.agg [AVal.str s, AVal.str y], AVal.ptr 3 2 0 0)] [b] c, AObj.mp true [], AObj.rows false 2 [[AVal.map 4, AVal.slc f 5 2 0 (List.length ps) none]], AObj.mp true mem, AObj.rows true 2 ps]) :: [])))))))))))))))))) by kernel_rfl) (allP_of (trC 4 ⟨h1, (trC 27 ⟨rfl, (trC 2 ⟨rfl, (trC 25 ⟨rfl, ⟨rfl, (trC 15 ⟨h2, (trC 29 ⟨rfl, ⟨⟨h3, rfl, rfl, rfl⟩, (trC 3 ⟨rfl, ⟨⟨h4, rfl, rfl, rfl⟩, trivial⟩⟩)⟩⟩)⟩)⟩⟩)⟩)⟩)⟩))).move ([0, 1, 2, 3, 4, 5]) (by kernel_rfl) (by kernel_rfl) (by kernel_rfl)

def dO_T (s : ByteArray) (y : ByteArray) (u : ByteArray) (ps : List (List AVal)) (mem : Ents) (f : Bool) (b : Nat) (c : Nat) (Q : AVal → AState → Prop) : Prop := (FOk Tryd.prog 27 [AVal.ptr 0 2 0 0] [AObj.rows false 2 [[AVal.map 1, AVal.map 2]], AObj.mpn false [(AVal.agg [AVal.str s, AVal.str y], AVal.ptr 3 2 0 0)] [b] c, AObj.mp true [], AObj.rows false 2 [[AVal.map 4, AVal.slc f 5 2 0 (List.length ps) none]], AObj.mp true mem, AObj.rows true 2 ps] (AVal.bool true) [AObj.rows false 2 [[AVal.map 1, AVal.map 2]], AObj.mpn false [(AVal.agg [AVal.str s, AVal.str y], AVal.ptr 3 2 0 0)] [b] c, AObj.mp true [], AObj.rows false 2 [[AVal.map 4, AVal.slc f 5 2 0 (List.length ps) none]], AObj.mp true mem, AObj.rows true 2 ps]) ∧ (FOk Tryd.prog 21 [AVal.agg [AVal.int IntKind.i64 7, AVal.str w0, AVal.str w0, AVal.str u, AVal.str w0, AVal.str w0, AVal.str w0, AVal.int IntKind.i64 0, AVal.int IntKind.i64 0]] [] (AVal.int IntKind.i64 0) []) ∧ (AVal.tuple [Option.getD (afind (AVal.agg [AVal.str w0, AVal.str w0]) [(AVal.agg [AVal.str s, AVal.str y], AVal.ptr 3 2 0 0)]) AVal.nilp, AVal.tt (Option.isSome (afind (AVal.agg [AVal.str w0, AVal.str w0]) [(AVal.agg [AVal.str s, AVal.str y], AVal.ptr 3 2 0 0)]))] = AVal.tuple [AVal.nilp, AVal.tt false]) ∧ (TripN Tryd.prog 6 (Code.loop (loopNo Tryd.f13 0)) (mkR 97 [(3, AVal.ptr 6 9 0 0), (4, AVal.ptr 7 3 0 0), (77, AVal.ptr 8 1 0 0)]) [AObj.rows false 2 [[AVal.map 1, AVal.map 2]], AObj.mpn false [(AVal.agg [AVal.str s, AVal.str y], AVal.ptr 3 2 0 0)] [b] c, AObj.mp true [(AVal.str u, AVal.tt true)], AObj.rows false 2 [[AVal.map 4, AVal.slc f 5 2 0 (List.length ps) none]], AObj.mp true mem, AObj.rows true 2 ps, AObj.rows true 9 [[AVal.int IntKind.i64 7, AVal.str w0, AVal.str w0, AVal.str u, AVal.str w0, AVal.str w0, AVal.str w0, AVal.int IntKind.i64 0, AVal.int IntKind.i64 0]], AObj.rows false 3 [[AVal.int IntKind.i64 0, AVal.int IntKind.i64 0, AVal.fsl true 0 [] (some 0)]], AObj.miter (some 1) c [] c] (AExit.exit 1) (mkR 97 [(3, AVal.ptr 6 9 0 0), (4, AVal.ptr 7 3 0 0), (77, AVal.ptr 8 1 0 0)]) [AObj.rows false 2 [[AVal.map 1, AVal.map 2]], AObj.mpn false [(AVal.agg [AVal.str s, AVal.str y], AVal.ptr 3 2 0 0)] [b] c, AObj.mp true [(AVal.str u, AVal.tt true)], AObj.rows false 2 [[AVal.map 4, AVal.slc f 5 2 0 (List.length ps) none]], AObj.mp true (adel (AVal.str u) mem), AObj.rows true 2 ps, AObj.rows true 9 [[AVal.int IntKind.i64 7, AVal.str w0, AVal.str w0, AVal.str u, AVal.str w0, AVal.str w0, AVal.str w0, AVal.int IntKind.i64 0, AVal.int IntKind.i64 0]], AObj.rows false 3 [[AVal.int IntKind.i64 0, AVal.int IntKind.i64 0, AVal.fsl true 0 [] (some 0)]], AObj.miter (some 1) c [b] c]) ∧ Q (AVal.agg [AVal.int IntKind.i64 0, AVal.int IntKind.i64 0, AVal.fsl true 2 [] none]) ([AObj.rows false 2 [[AVal.map 1, AVal.map 2]], AObj.mpn false [(AVal.agg [AVal.str s, AVal.str y], AVal.ptr 3 2 0 0)] [b] c, AObj.mp true [(AVal.str u, AVal.tt true)], AObj.rows false 2 [[AVal.map 4, AVal.slc f 5 2 0 (List.length ps) none]], AObj.mp true (adel (AVal.str u) mem), AObj.rows true 2 ps])
theorem dO_wp (s : ByteArray) (y : ByteArray) (u : ByteArray) (ps : List (List AVal)) (mem : Ents) (f : Bool) (b : Nat) (c : Nat) {Q : AVal → AState → Prop} (h : dO_T s y u ps mem f b c Q) : ∃ r σ', FOk Tryd.prog 13 ([AVal.ptr 0 2 0 0, opw 7 w0 w0 u w0 w0 w0 0 0]) (H6n [(ky s y, AVal.ptr 3 2 0 0)] [] mem [b] c ps f) r σ' ∧ Q r σ' :=
  ⟨_, _, dO_1 s y u ps mem f b c (h.2.2.2.1) (h.2.2.1) (h.2.1) (h.1), h.2.2.2.2⟩


theorem given6e_1 (s : ByteArray) (y : ByteArray) (off : Ents) (mem : Ents) (bs : List Nat) (c : Nat) (ps : List (List AVal)) (b : Bool) :
    FOk Tryd.prog 27 ([AVal.ptr 0 2 0 0]) (H6n [(ky s y, AVal.ptr 3 2 0 0)] off mem bs c ps b) (AVal.bool true) ([AObj.rows false 2 [[AVal.map 1, AVal.map 2]], AObj.mpn false [(AVal.agg [AVal.str s, AVal.str y], AVal.ptr 3 2 0 0)] bs c, AObj.mp true off, AObj.rows false 2 [[AVal.map 4, AVal.slc b 5 2 0 (List.length ps) none]], AObj.mp true mem, AObj.rows true 2 ps]) :=
  (evalF_ok followed Tryd.func27 (by kernel_rfl) (show evalF Tryd.prog Tryd.f27 ([AVal.ptr 0 2 0 0]) (H6n [(ky s y, AVal.ptr 3 2 0 0)] off mem bs c ps b) ([Dec.br true]) = .ok (FRes.mk (AVal.bool true) ([AObj.rows false 2 [[AVal.map 1, AVal.map 2]], AObj.mpn false [(AVal.agg [AVal.str s, AVal.str y], AVal.ptr 3 2 0 0)] bs c, AObj.mp true off, AObj.rows false 2 [[AVal.map 4, AVal.slc b 5 2 0 (List.length ps) none]], AObj.mp true mem, AObj.rows true 2 ps]) (tr 3 ++ [])) by kernel_rfl) (allP_of (trC 3 trivial))).move ([0, 1, 2, 3, 4, 5]) (by kernel_rfl) (by kernel_rfl) (by kernel_rfl)

def given6e_T (s : ByteArray) (y : ByteArray) (off : Ents) (mem : Ents) (bs : List Nat) (c : Nat) (ps : List (List AVal)) (b : Bool) (Q : AVal → AState → Prop) : Prop := Q (AVal.bool true) ([AObj.rows false 2 [[AVal.map 1, AVal.map 2]], AObj.mpn false [(AVal.agg [AVal.str s, AVal.str y], AVal.ptr 3 2 0 0)] bs c, AObj.mp true off, AObj.rows false 2 [[AVal.map 4, AVal.slc b 5 2 0 (List.length ps) none]], AObj.mp true mem, AObj.rows true 2 ps])
theorem given6e_wp (s : ByteArray) (y : ByteArray) (off : Ents) (mem : Ents) (bs : List Nat) (c : Nat) (ps : List (List AVal)) (b : Bool) {Q : AVal → AState → Prop} (h : given6e_T s y off mem bs c ps b Q) : ∃ r σ', FOk Tryd.prog 27 ([AVal.ptr 0 2 0 0]) (H6n [(ky s y, AVal.ptr 3 2 0 0)] off mem bs c ps b) r σ' ∧ Q r σ' :=
  ⟨_, _, given6e_1 s y off mem bs c ps b, h⟩


end Go.MN
end

section
set_option linter.unusedVariables false
set_option linter.unusedSimpArgs false
set_option maxRecDepth 100000
namespace Go.MN
open Go Go.Abs Go.Proofs
theorem beqB (a b : ByteArray) : (a == b) = decide (a = b) := by
  by_cases h : a = b
  · subst h; rw [decide_eq_true rfl]; exact (Go.MapKept.bytes_beq a a).2 rfl
  · rw [decide_eq_false h]
    cases hb : (a == b) with
    | false => rfl
    | true => exact absurd ((Go.MapKept.bytes_beq a b).1 hb) h
instance : LawfulBEq ByteArray where
  eq_of_beq := fun h => (Go.MapKept.bytes_beq _ _).1 h
  rfl := (Go.MapKept.bytes_beq _ _).2 rfl
theorem keq_str (a b : ByteArray) : keq (.str a) (.str b) = decide (a = b) := by show (a == b) = _; exact beqB a b
theorem keq_ky (s c y z : ByteArray) : keq (ky s c) (ky y z) = (decide (s = y) && decide (c = z)) := by
  show ((s == y) && ((c == z) && true)) = _
  rw [beqB, beqB, Bool.and_true]
def gms (l : List ByteArray) : Ents := l.map gm
theorem afind_gm (u : ByteArray) : ∀ (l : List ByteArray), afind (.str u) (gms l) = if u ∈ l then some (.tt true) else none
  | [] => rfl
  | v :: l => by
    show (if keq (.str u) (.str v) = true then some (AVal.tt true) else afind (.str u) (gms l)) = _
    rw [keq_str, afind_gm u l]
    by_cases h : u = v
    · simp [h]
    · simp [h]
theorem aput_gm (u : ByteArray) : ∀ (l : List ByteArray), u ∉ l → aput (.str u) (.tt true) (gms l) = gms (l ++ [u])
  | [], _ => rfl
  | v :: l, h => by
    have h1 : u ≠ v := fun e => h (by simp [e])
    have h2 : u ∉ l := fun e => h (by simp [e])
    show (if keq (.str u) (.str v) = true then _ else (AVal.str v, AVal.tt true) :: aput (.str u) (.tt true) (gms l)) = _
    rw [keq_str, decide_eq_false h1, if_neg (by simp), aput_gm u l h2]; rfl
theorem adel_gm (u : ByteArray) : ∀ (l : List ByteArray), adel (.str u) (gms l) = gms (l.erase u)
  | [] => rfl
  | v :: l => by
    show (if keq (.str u) (.str v) = true then gms l else (AVal.str v, AVal.tt true) :: adel (.str u) (gms l)) = _
    rw [keq_str, adel_gm u l, List.erase_cons]
    by_cases h : u = v
    · subst h; simp
    · have : (v == u) = false := by rw [beqB]; simp; exact fun e => h e.symm
      rw [this]; simp [h]; rfl
theorem kk9 (u : ByteArray) : keyKind Tryd.prog 9 (.str u) = true := by unfold keyKind; rw [Tryd.underlying9]
theorem kk9s (l : List ByteArray) : (List.all (gms l) fun p => keyKind Tryd.prog 9 (Prod.fst p)) = true := by
  rw [List.all_eq_true]; intro e he
  obtain ⟨u, _, rfl⟩ := List.mem_map.1 he
  exact kk9 u
theorem ok4 (b : Bool) : okCells Tryd.prog 4 (.tt b) = true := by cases b <;> kernel_rfl
theorem as4 (b : Bool) : asType Tryd.prog 4 (reifyL [Kind.bool] (AVal.cells (.tt b))) = .bool b := by cases b <;> kernel_rfl
theorem getD_gm (u : ByteArray) (l : List ByteArray) : Option.getD (afind (.str u) (gms l)) (.tt false) = .tt (decide (u ∈ l)) := by
  rw [afind_gm]; by_cases h : u ∈ l <;> simp [h]
theorem kk69 (s c : ByteArray) : keyKind Tryd.prog 69 (ky s c) = true := by kernel_rfl
def keysOk (l : Ents) : Prop := ∀ e ∈ l, ∃ s c, e.1 = ky s c
theorem keys_all {l : Ents} (h : keysOk l) : (List.all l fun p => keyKind Tryd.prog 69 (Prod.fst p)) = true := by
  rw [List.all_eq_true]; intro e he
  obtain ⟨s, c, h⟩ := h e he
  rw [h]; exact kk69 s c
theorem afind_app (k : AVal) : ∀ (l l' : Ents), afind k l = none → afind k (l ++ l') = afind k l'
  | [], l', _ => rfl
  | (k', v') :: l, l', h => by
    simp only [afind, List.cons_append] at h ⊢
    split at h
    · cases h
    · rename_i hk; rw [if_neg hk]; exact afind_app k l l' h
theorem afind_mid (s c : ByteArray) (v : AVal) (pre post : Ents) (h : afind (ky s c) pre = none) : afind (ky s c) (pre ++ [(ky s c, v)] ++ post) = some v := by
  rw [List.append_assoc, afind_app _ _ _ h]
  show (if keq (ky s c) (ky s c) = true then some v else _) = _
  rw [keq_ky]; simp

theorem wJ_off (pre post : Ents) (s c u : ByteArray) (offs us : List ByteArray) (b : Bool) (ps : List (List AVal)) (h : u ∈ offs) : FOk Tryd.prog 31 [.ptr 0 2 0 0, ky s c, .ptr 1 2 0 0, opw 2 s c u w0 w0 w0 0 0] (W6 pre post s c (gms offs) (gms us) b ps) (rep 92 0 nilps) (W6 pre post s c (gms offs) (gms us) b ps) := by
  refine FOk.wp (wJ_wp pre post s c u (gms offs) (gms us) b ps true false ?_)
  unfold wJ_T
  rw [getD_gm, decide_eq_true h]
  exact ⟨kk9s _, ok4 _, by rw [if_neg (by simp)]; exact as4 true, fun _ => ⟨rfl, rfl⟩, fun h => by cases h⟩
theorem wJ_there (pre post : Ents) (s c u : ByteArray) (offs us : List ByteArray) (b : Bool) (ps : List (List AVal)) (h : u ∉ offs) (h2 : u ∈ us) : FOk Tryd.prog 31 [.ptr 0 2 0 0, ky s c, .ptr 1 2 0 0, opw 2 s c u w0 w0 w0 0 0] (W6 pre post s c (gms offs) (gms us) b ps) (rep 90 0 nilps) (W6 pre post s c (gms offs) (gms us) b ps) := by
  refine FOk.wp (wJ_wp pre post s c u (gms offs) (gms us) b ps false true ?_)
  unfold wJ_T
  rw [getD_gm, getD_gm, decide_eq_false h, decide_eq_true h2]
  exact ⟨kk9s _, ok4 _, by rw [if_neg (by simp)]; exact as4 false, (fun h => by cases h), fun _ => ⟨kk9s _, ok4 _, by rw [if_neg (by simp)]; exact as4 true, fun _ => ⟨rfl, rfl⟩, fun h => by cases h⟩⟩
theorem wJ_new (pre post : Ents) (s c u : ByteArray) (offs us : List ByteArray) (b : Bool) (ps : List (List AVal)) (h : u ∉ offs) (h2 : u ∉ us) : FOk Tryd.prog 31 [.ptr 0 2 0 0, ky s c, .ptr 1 2 0 0, opw 2 s c u w0 w0 w0 0 0] (W6 pre post s c (gms offs) (gms us) b ps) (rep 0 0 nilps) (W6 pre post s c (gms offs) (gms (us ++ [u])) b ps) := by
  refine FOk.wp (wJ_wp pre post s c u (gms offs) (gms us) b ps false false ?_)
  unfold wJ_T
  rw [getD_gm, getD_gm, decide_eq_false h, decide_eq_false h2, aput_gm u us h2]
  exact ⟨kk9s _, ok4 _, by rw [if_neg (by simp)]; exact as4 false, (fun h => by cases h), fun _ => ⟨kk9s _, ok4 _, by rw [if_neg (by simp)]; exact as4 false, (fun h => by cases h), fun _ => ⟨rfl, rfl⟩⟩⟩
end Go.MN
end

section
set_option linter.unusedVariables false
set_option linter.unusedSimpArgs false
set_option maxRecDepth 100000
namespace Go.MN
open Go Go.Abs Go.Proofs
theorem FOk.pushE {P : Program} {f : FuncId} {xs : List AVal} {σ σ' : AState} {v : AVal} (h : FOk P f xs σ v σ') (A : AObj) : FOk P f xs σ v (σ' ++ [A]) := h.post fun F w ρ r => r.push A
theorem Imp.nilSlc (es id es2 : Nat) : Imp (.fsl true es [] (some 0)) (.slc true id es2 0 0 none) := fun F w ρ c h => by
  cases h with
  | fnil ρ es cap hc => exact .slcE _ _ _ _ _ _ _ rfl (by simp)
theorem mq0 {P : Program} {f : FuncId} {xs : List AVal} {σ σ' : AState} {v : AVal} {id : Nat} (h : FOk P f xs σ v σ') (ho : Abs.obj σ' id = .mp false []) : FOk P f xs σ v (σ'.set id (.mq [] [] [])) :=
  h.post fun F w ρ r => r.reobj ho rfl fun b hb => ⟨fun e he => by simp at he, r.obj _ _ _ (obj_some ho rfl) hb⟩
theorem unmq1 {P : Program} {f : FuncId} {xs : List AVal} {σ σ' : AState} {v : AVal} {id : Nat} {own : Ents} (h : FOk P f xs σ v σ') (ho : Abs.obj σ' id = .mp false own) : FOk P f xs σ v (σ'.set id (.mq [] own [])) :=
  h.post fun F w ρ r => r.reobj ho rfl fun b hb => ⟨fun e he => by simp at he, by have := r.obj _ _ _ (obj_some ho rfl) hb; rw [List.nil_append, List.append_nil]; exact this⟩
theorem mq1 {P : Program} {f : FuncId} {xs : List AVal} {σ σ' : AState} {v : AVal} {id : Nat} {own : Ents} (h : FOk P f xs (σ.set id (.mp false own)) v σ') (ho : Abs.obj σ id = .mq [] own []) : FOk P f xs σ v σ' :=
  h.pre fun F w ρ r => r.reobj ho rfl fun b hb => by have := (r.obj _ _ _ (obj_some ho rfl) hb).2; rw [List.nil_append, List.append_nil] at this; exact this

theorem new_ok : FOk Tryd.prog 12 [] [] (.ptr 0 2 0 0) (H3 [] (gms [])) := mq0 (id := 1) (FOk.wp (new__wp ⟨rfl, rfl⟩)) rfl
theorem doA3 (pre off : Ents) (k : Int) (s c u x y z : ByteArray) (f m : Int) (ck : FOk Tryd.prog 21 [opw k s c u x y z f m] [] (.int .i64 1) []) : FOk Tryd.prog 13 [.ptr 0 2 0 0, opw k s c u x y z f m] (H3 pre off) (rep 1 0 nilps) (H3 pre off) :=
  FOk.wp (dA3_wp pre off k s c u x y z f m ⟨given3 .., ck, no_ok 1, rfl, rfl⟩)
theorem doN3 (pre off : Ents) (k : Int) (s c u x y z : ByteArray) (f m : Int) (ck : FOk Tryd.prog 21 [opw k s c u x y z f m] [] (.int .i64 0) []) (hk : keysOk pre) (hn : afind (ky s c) pre = none) (h1 : k ≠ 1) (h6 : k ≠ 6) (h7 : k ≠ 7) :
    FOk Tryd.prog 13 [.ptr 0 2 0 0, opw k s c u x y z f m] (H3 pre off) (rep 3 0 nilps) (H3 pre off) := by
  refine FOk.wp (dN3_wp pre off k s c u x y z f m ?_)
  unfold dN3_T
  rw [List.append_nil, List.append_nil, hn]
  exact ⟨given3 .., ck, keys_all hk, rfl, by simpa using h1, by simpa using h6, by simpa using h7, no_ok 3, rfl, rfl⟩
theorem doM3 (pre off : Ents) (s c : ByteArray) (ck : FOk Tryd.prog 21 [opw 1 s c w0 w0 w0 w0 0 0] [] (.int .i64 0) []) (hk : keysOk pre) (hn : afind (ky s c) pre = none) :
    FOk Tryd.prog 13 [.ptr 0 2 0 0, opw 1 s c w0 w0 w0 w0 0 0] (H3 pre off) (rep 0 0 nilps) (H6 pre [] s c off (gms []) true []) := by
  have h : FOk Tryd.prog 13 [.ptr 0 2 0 0, opw 1 s c w0 w0 w0 w0 0 0] (H3 pre off) (rep 0 0 nilps) [.rows false 2 [[.map 1, .map 2]], .mq (pre ++ []) [(ky s c, .ptr 3 2 0 0)] [], .mp true off, .rows false 2 [[.map 4, .fsl true 0 [] (some 0)]], .mp true []] := by
    refine FOk.wp (dM3_wp pre off s c ?_)
    unfold dM3_T
    refine ⟨given3 .., ck, ?_⟩
    simp only [List.append_nil, hn]
    simp [keys_all hk]
  rw [List.append_nil] at h
  exact (FOk.pushE h (.rows true 2 [])).weakCell (id := 3) (i := 0) (j := 1) (es' := 2) (rs := [[.map 4, .fsl true 0 [] (some 0)]]) rfl (Imp.nilSlc 0 5 2)
theorem doM6 (pre post : Ents) (s c : ByteArray) (off mem : Ents) (b : Bool) (ps : List (List AVal)) (ck : FOk Tryd.prog 21 [opw 1 s c w0 w0 w0 w0 0 0] [] (.int .i64 0) []) (hk : keysOk (pre ++ post)) (hn : afind (ky s c) pre = none) :
    FOk Tryd.prog 13 [.ptr 0 2 0 0, opw 1 s c w0 w0 w0 w0 0 0] (H6 pre post s c off mem b ps) (rep 90 0 nilps) (H6 pre post s c off mem b ps) := by
  refine FOk.wp (dM6_wp pre post s c off mem b ps ?_)
  unfold dM6_T
  rw [afind_mid s c _ pre post hn]
  exact ⟨given6 .., ck, keys_all (fun e he => by
    rw [List.append_assoc, List.mem_append, List.mem_append, List.mem_singleton] at he
    rcases he with he | rfl | he
    · exact hk e (List.mem_append.2 (.inl he))
    · exact ⟨s, c, rfl⟩
    · exact hk e (List.mem_append.2 (.inr he))), rfl, no_ok 90, rfl, rfl⟩
theorem keys_mid {pre post : Ents} {s c : ByteArray} {v : AVal} (hk : keysOk (pre ++ post)) : keysOk (pre ++ [(ky s c, v)] ++ post) := fun e he => by
  rw [List.append_assoc, List.mem_append, List.mem_append, List.mem_singleton] at he
  rcases he with he | rfl | he
  · exact hk e (List.mem_append.2 (.inl he))
  · exact ⟨s, c, rfl⟩
  · exact hk e (List.mem_append.2 (.inr he))
theorem doS (pre post : Ents) (k : Int) (s c u x y z : ByteArray) (f m : Int) (off mem : Ents) (b : Bool) (ps : List (List AVal)) (e a : Int) (nl : Bool) (qs : List (List AVal)) (ck : FOk Tryd.prog 21 [opw k s c u x y z f m] [] (.int .i64 0) []) (hk : keysOk (pre ++ post)) (hn : afind (ky s c) pre = none) (h1 : k ≠ 1) (h6 : k ≠ 6) (h7 : k ≠ 7)
    (hw : FOk Tryd.prog 31 [.ptr 0 2 0 0, ky s c, .ptr 1 2 0 0, opw k s c u x y z f m] (W6 pre post s c off mem b ps) (rep e a (.fsl nl 2 qs none)) (W6 pre post s c off mem b ps)) :
    FOk Tryd.prog 13 [.ptr 0 2 0 0, opw k s c u x y z f m] (H6 pre post s c off mem b ps) (rep e a (.fsl nl 2 qs none)) (H6 pre post s c off mem b ps) := by
  refine FOk.wp (dS_wp pre post k s c u x y z f m off mem b ps e a nl qs ?_)
  unfold dS_T
  rw [afind_mid s c _ pre post hn]
  exact ⟨given6 .., ck, keys_all (keys_mid hk), rfl, by simpa using h1, by simpa using h6, by simpa using h7, hw, rfl, rfl⟩
theorem doJ (pre post : Ents) (s c u : ByteArray) (offs us : List ByteArray) (b : Bool) (ps : List (List AVal)) (ck : FOk Tryd.prog 21 [opw 2 s c u w0 w0 w0 0 0] [] (.int .i64 0) []) (hk : keysOk (pre ++ post)) (hn : afind (ky s c) pre = none) (h : u ∉ offs) (h2 : u ∉ us) :
    FOk Tryd.prog 13 [.ptr 0 2 0 0, opw 2 s c u w0 w0 w0 0 0] (H6 pre post s c (gms offs) (gms us) b ps) (rep 0 0 nilps) (H6 pre post s c (gms offs) (gms (us ++ [u])) b ps) := by
  refine FOk.wp (dJ_wp pre post s c u (gms offs) (gms us) (gms (us ++ [u])) b ps ?_)
  unfold dJ_T
  rw [afind_mid s c _ pre post hn]
  exact ⟨given6 .., ck, keys_all (keys_mid hk), rfl, wJ_new pre post s c u offs us b ps h h2, rfl, rfl⟩
end Go.MN
end

section
set_option linter.unusedVariables false
set_option maxRecDepth 100000
namespace Go.MN
open Go Go.Abs Go.Proofs
abbrev tw : ByteArray := ⟨#[119]⟩
abbrev tc : ByteArray := ⟨#[99]⟩
abbrev tann : ByteArray := ⟨#[97, 110, 110]⟩
abbrev thi : ByteArray := ⟨#[104, 105]⟩
abbrev tho : ByteArray := ⟨#[104, 111]⟩
abbrev tno : ByteArray := ⟨#[110, 111]⟩
abbrev mA : Ents := [gm tann]
abbrev pst (x : ByteArray) : List AVal := [.str tann, .str x]
abbrev okr : AVal := rep 0 0 nilps
abbrev P1 (mem : Ents) (ps : List (List AVal)) (n : Nat) : AState := [.rows false 2 [[.map 1, .map 2]], .mq [] [(ky tw tc, .ptr 3 2 0 0)] [], .mp true [], .rows false 2 [[.map 4, .slc false 6 2 0 n none]], .mp true mem, .dead, .rows true 2 ps]
abbrev iqPI : Int → AVal := AVal.int IntKind.i64
abbrev bqPI : ByteArray := ByteArray.mk #[]
theorem pos_1 (x : ByteArray) :
    FOk Tryd.prog 15 ([AVal.str x]) ([]) (AVal.agg [iqPI 3, AVal.str (ByteArray.mk #[119]), AVal.str (ByteArray.mk #[99]), AVal.str (ByteArray.mk #[97, 110, 110]), AVal.str x, AVal.str bqPI, AVal.str bqPI, iqPI 0, iqPI 0]) ([]) :=
  (evalF_ok followed Tryd.func15 (by kernel_rfl) (show evalF Tryd.prog Tryd.f15 ([AVal.str x]) ([]) ([]) = .ok (FRes.mk (AVal.agg [iqPI 3, AVal.str (ByteArray.mk #[119]), AVal.str (ByteArray.mk #[99]), AVal.str (ByteArray.mk #[97, 110, 110]), AVal.str x, AVal.str bqPI, AVal.str bqPI, iqPI 0, iqPI 0]) ([AObj.rows true 9 [[iqPI 3, AVal.str (ByteArray.mk #[119]), AVal.str (ByteArray.mk #[99]), AVal.str (ByteArray.mk #[97, 110, 110]), AVal.str x, AVal.str bqPI, AVal.str bqPI, iqPI 0, iqPI 0]]]) (tr 5 ++ [])) by kernel_rfl) (allP_of (trC 5 trivial))).move ([]) (by kernel_rfl) (by kernel_rfl) (by kernel_rfl)

def pos_T (x : ByteArray) (Q : AVal → AState → Prop) : Prop := Q (AVal.agg [AVal.int IntKind.i64 3, AVal.str (ByteArray.mk #[119]), AVal.str (ByteArray.mk #[99]), AVal.str (ByteArray.mk #[97, 110, 110]), AVal.str x, AVal.str (ByteArray.mk #[]), AVal.str (ByteArray.mk #[]), AVal.int IntKind.i64 0, AVal.int IntKind.i64 0]) ([])
theorem pos_wp (x : ByteArray) {Q : AVal → AState → Prop} (h : pos_T x Q) : ∃ r σ', FOk Tryd.prog 15 ([AVal.str x]) ([]) r σ' ∧ Q r σ' :=
  ⟨_, _, pos_1 x, h⟩


theorem awk_1
    (h1 : FOk Tryd.prog 13 [AVal.ptr 0 2 0 0, AVal.agg [iqPI 3, AVal.str tw, AVal.str tc, AVal.str tann, AVal.str tno, AVal.str w0, AVal.str w0, iqPI 0, iqPI 0]] [AObj.rows false 2 [[AVal.map 1, AVal.map 2]], AObj.mq [] [(AVal.agg [AVal.str tw, AVal.str tc], AVal.ptr 3 2 0 0)] [], AObj.mp true [(AVal.str tann, AVal.tt true)], AObj.rows false 2 [[AVal.map 4, AVal.slc false 5 2 0 2 none]], AObj.mp true [], AObj.rows true 2 [[AVal.str tann, AVal.str thi], [AVal.str tann, AVal.str tho]]] (AVal.agg [iqPI 92, iqPI 0, AVal.fsl true 2 [] none]) [AObj.rows false 2 [[AVal.map 1, AVal.map 2]], AObj.mq [] [(AVal.agg [AVal.str tw, AVal.str tc], AVal.ptr 3 2 0 0)] [], AObj.mp true [(AVal.str tann, AVal.tt true)], AObj.rows false 2 [[AVal.map 4, AVal.slc false 5 2 0 2 none]], AObj.mp true [], AObj.rows true 2 [[AVal.str tann, AVal.str thi], [AVal.str tann, AVal.str tho]]])
    (h2 : FOk Tryd.prog 15 [AVal.str (ByteArray.mk #[110, 111])] [] (AVal.agg [iqPI 3, AVal.str tw, AVal.str tc, AVal.str tann, AVal.str tno, AVal.str w0, AVal.str w0, iqPI 0, iqPI 0]) [])
    (h3 : FOk Tryd.prog 13 [AVal.ptr 0 2 0 0, AVal.agg [iqPI 7, AVal.str bqPI, AVal.str bqPI, AVal.str (ByteArray.mk #[97, 110, 110]), AVal.str bqPI, AVal.str bqPI, AVal.str bqPI, iqPI 0, iqPI 0]] [AObj.rows false 2 [[AVal.map 1, AVal.map 2]], AObj.mq [] [(AVal.agg [AVal.str tw, AVal.str tc], AVal.ptr 3 2 0 0)] [], AObj.mp true [], AObj.rows false 2 [[AVal.map 4, AVal.slc false 5 2 0 2 none]], AObj.mp true [(AVal.str tann, AVal.tt true)], AObj.rows true 2 [[AVal.str tann, AVal.str thi], [AVal.str tann, AVal.str tho]]] (AVal.agg [iqPI 0, iqPI 0, AVal.fsl true 2 [] none]) [AObj.rows false 2 [[AVal.map 1, AVal.map 2]], AObj.mq [] [(AVal.agg [AVal.str tw, AVal.str tc], AVal.ptr 3 2 0 0)] [], AObj.mp true [(AVal.str tann, AVal.tt true)], AObj.rows false 2 [[AVal.map 4, AVal.slc false 5 2 0 2 none]], AObj.mp true [], AObj.rows true 2 [[AVal.str tann, AVal.str thi], [AVal.str tann, AVal.str tho]]])
    (h4 : FOk Tryd.prog 13 [AVal.ptr 0 2 0 0, AVal.agg [iqPI 3, AVal.str tw, AVal.str tc, AVal.str tann, AVal.str tho, AVal.str w0, AVal.str w0, iqPI 0, iqPI 0]] [AObj.rows false 2 [[AVal.map 1, AVal.map 2]], AObj.mq [] [(AVal.agg [AVal.str tw, AVal.str tc], AVal.ptr 3 2 0 0)] [], AObj.mp true [], AObj.rows false 2 [[AVal.map 4, AVal.slc false 5 2 0 1 none]], AObj.mp true [(AVal.str tann, AVal.tt true)], AObj.rows true 2 [[AVal.str tann, AVal.str thi]]] (AVal.agg [iqPI 0, iqPI 1, AVal.fsl true 2 [] none]) [AObj.rows false 2 [[AVal.map 1, AVal.map 2]], AObj.mq [] [(AVal.agg [AVal.str tw, AVal.str tc], AVal.ptr 3 2 0 0)] [], AObj.mp true [], AObj.rows false 2 [[AVal.map 4, AVal.slc false 6 2 0 2 none]], AObj.mp true [(AVal.str tann, AVal.tt true)], AObj.dead, AObj.rows true 2 [[AVal.str tann, AVal.str thi], [AVal.str tann, AVal.str tho]]])
    (h5 : FOk Tryd.prog 15 [AVal.str (ByteArray.mk #[104, 111])] [] (AVal.agg [iqPI 3, AVal.str tw, AVal.str tc, AVal.str tann, AVal.str tho, AVal.str w0, AVal.str w0, iqPI 0, iqPI 0]) [])
    (h6 : FOk Tryd.prog 13 [AVal.ptr 0 2 0 0, AVal.agg [iqPI 3, AVal.str tw, AVal.str tc, AVal.str tann, AVal.str thi, AVal.str w0, AVal.str w0, iqPI 0, iqPI 0]] [AObj.rows false 2 [[AVal.map 1, AVal.map 2]], AObj.mq [] [(AVal.agg [AVal.str tw, AVal.str tc], AVal.ptr 3 2 0 0)] [], AObj.mp true [], AObj.rows false 2 [[AVal.map 4, AVal.slc true 5 2 0 0 none]], AObj.mp true [(AVal.str tann, AVal.tt true)], AObj.rows true 2 []] (AVal.agg [iqPI 0, iqPI 0, AVal.fsl true 2 [] none]) [AObj.rows false 2 [[AVal.map 1, AVal.map 2]], AObj.mq [] [(AVal.agg [AVal.str tw, AVal.str tc], AVal.ptr 3 2 0 0)] [], AObj.mp true [], AObj.rows false 2 [[AVal.map 4, AVal.slc false 6 2 0 1 none]], AObj.mp true [(AVal.str tann, AVal.tt true)], AObj.dead, AObj.rows true 2 [[AVal.str tann, AVal.str thi]]])
    (h7 : FOk Tryd.prog 15 [AVal.str (ByteArray.mk #[104, 105])] [] (AVal.agg [iqPI 3, AVal.str tw, AVal.str tc, AVal.str tann, AVal.str thi, AVal.str w0, AVal.str w0, iqPI 0, iqPI 0]) [])
    (h8 : FOk Tryd.prog 13 [AVal.ptr 0 2 0 0, AVal.agg [iqPI 2, AVal.str (ByteArray.mk #[119]), AVal.str (ByteArray.mk #[99]), AVal.str (ByteArray.mk #[97, 110, 110]), AVal.str bqPI, AVal.str bqPI, AVal.str bqPI, iqPI 0, iqPI 0]] [AObj.rows false 2 [[AVal.map 1, AVal.map 2]], AObj.mq [] [(AVal.agg [AVal.str tw, AVal.str tc], AVal.ptr 3 2 0 0)] [], AObj.mp true [], AObj.rows false 2 [[AVal.map 4, AVal.slc true 5 2 0 0 none]], AObj.mp true [], AObj.rows true 2 []] (AVal.agg [iqPI 0, iqPI 0, AVal.fsl true 2 [] none]) [AObj.rows false 2 [[AVal.map 1, AVal.map 2]], AObj.mq [] [(AVal.agg [AVal.str tw, AVal.str tc], AVal.ptr 3 2 0 0)] [], AObj.mp true [], AObj.rows false 2 [[AVal.map 4, AVal.slc true 5 2 0 0 none]], AObj.mp true [(AVal.str tann, AVal.tt true)], AObj.rows true 2 []])
    (h9 : FOk Tryd.prog 13 [AVal.ptr 0 2 0 0, AVal.agg [iqPI 1, AVal.str (ByteArray.mk #[119]), AVal.str (ByteArray.mk #[99]), AVal.str bqPI, AVal.str bqPI, AVal.str bqPI, AVal.str bqPI, iqPI 0, iqPI 0]] [AObj.rows false 2 [[AVal.map 1, AVal.map 2]], AObj.mq [] [] [], AObj.mp true []] (AVal.agg [iqPI 0, iqPI 0, AVal.fsl true 2 [] none]) [AObj.rows false 2 [[AVal.map 1, AVal.map 2]], AObj.mq [] [(AVal.agg [AVal.str tw, AVal.str tc], AVal.ptr 3 2 0 0)] [], AObj.mp true [], AObj.rows false 2 [[AVal.map 4, AVal.slc true 5 2 0 0 none]], AObj.mp true [], AObj.rows true 2 []])
    (h10 : FOk Tryd.prog 12 [] [] (AVal.ptr 0 2 0 0) [AObj.rows false 2 [[AVal.map 1, AVal.map 2]], AObj.mq [] [] [], AObj.mp true []]) :
    FOk Tryd.prog 14 ([]) ([]) (AVal.bool true) ([]) :=
  (evalF_ok followed Tryd.func14 (by kernel_rfl) (show evalF Tryd.prog Tryd.f14 ([]) ([]) ([Dec.use [] [] [] (AVal.ptr 0 2 0 0) (H3 [] []), Dec.br false, Dec.use [0, 1, 2] [AVal.ptr 0 2 0 0, AVal.agg [iqPI 1, AVal.str (ByteArray.mk #[119]), AVal.str (ByteArray.mk #[99]), AVal.str bqPI, AVal.str bqPI, AVal.str bqPI, AVal.str bqPI, iqPI 0, iqPI 0]] [AObj.rows false 2 [[AVal.map 1, AVal.map 2]], AObj.mq [] [] [], AObj.mp true []] okr (H6 [] [] tw tc [] [] true []), Dec.use [0, 1, 2, 3, 4, 5] [AVal.ptr 0 2 0 0, AVal.agg [iqPI 2, AVal.str (ByteArray.mk #[119]), AVal.str (ByteArray.mk #[99]), AVal.str (ByteArray.mk #[97, 110, 110]), AVal.str bqPI, AVal.str bqPI, AVal.str bqPI, iqPI 0, iqPI 0]] [AObj.rows false 2 [[AVal.map 1, AVal.map 2]], AObj.mq [] [(AVal.agg [AVal.str tw, AVal.str tc], AVal.ptr 3 2 0 0)] [], AObj.mp true [], AObj.rows false 2 [[AVal.map 4, AVal.slc true 5 2 0 0 none]], AObj.mp true [], AObj.rows true 2 []] okr (H6 [] [] tw tc [] mA true []), Dec.use [] [AVal.str (ByteArray.mk #[104, 105])] [] (opw 3 tw tc tann thi w0 w0 0 0) [], Dec.use [0, 1, 2, 3, 4, 5] [AVal.ptr 0 2 0 0, AVal.agg [iqPI 3, AVal.str tw, AVal.str tc, AVal.str tann, AVal.str thi, AVal.str w0, AVal.str w0, iqPI 0, iqPI 0]] [AObj.rows false 2 [[AVal.map 1, AVal.map 2]], AObj.mq [] [(AVal.agg [AVal.str tw, AVal.str tc], AVal.ptr 3 2 0 0)] [], AObj.mp true [], AObj.rows false 2 [[AVal.map 4, AVal.slc true 5 2 0 0 none]], AObj.mp true [(AVal.str tann, AVal.tt true)], AObj.rows true 2 []] okr (P1 mA [pst thi] 1), Dec.use [] [AVal.str (ByteArray.mk #[104, 111])] [] (opw 3 tw tc tann tho w0 w0 0 0) [], Dec.use [0, 1, 2, 3, 4, 8] [AVal.ptr 0 2 0 0, AVal.agg [iqPI 3, AVal.str tw, AVal.str tc, AVal.str tann, AVal.str tho, AVal.str w0, AVal.str w0, iqPI 0, iqPI 0]] [AObj.rows false 2 [[AVal.map 1, AVal.map 2]], AObj.mq [] [(AVal.agg [AVal.str tw, AVal.str tc], AVal.ptr 3 2 0 0)] [], AObj.mp true [], AObj.rows false 2 [[AVal.map 4, AVal.slc false 5 2 0 1 none]], AObj.mp true [(AVal.str tann, AVal.tt true)], AObj.rows true 2 [[AVal.str tann, AVal.str thi]]] (rep 0 1 nilps) (P1 mA [pst thi, pst tho] 2), Dec.use [0, 1, 2, 3, 4, 10] [AVal.ptr 0 2 0 0, AVal.agg [iqPI 7, AVal.str bqPI, AVal.str bqPI, AVal.str (ByteArray.mk #[97, 110, 110]), AVal.str bqPI, AVal.str bqPI, AVal.str bqPI, iqPI 0, iqPI 0]] [AObj.rows false 2 [[AVal.map 1, AVal.map 2]], AObj.mq [] [(AVal.agg [AVal.str tw, AVal.str tc], AVal.ptr 3 2 0 0)] [], AObj.mp true [], AObj.rows false 2 [[AVal.map 4, AVal.slc false 5 2 0 2 none]], AObj.mp true [(AVal.str tann, AVal.tt true)], AObj.rows true 2 [[AVal.str tann, AVal.str thi], [AVal.str tann, AVal.str tho]]] okr (H6 [] [] tw tc [gm tann] [] false [pst thi, pst tho]), Dec.use [] [AVal.str (ByteArray.mk #[110, 111])] [] (opw 3 tw tc tann tno w0 w0 0 0) [], Dec.use [0, 1, 2, 3, 4, 10] [AVal.ptr 0 2 0 0, AVal.agg [iqPI 3, AVal.str tw, AVal.str tc, AVal.str tann, AVal.str tno, AVal.str w0, AVal.str w0, iqPI 0, iqPI 0]] [AObj.rows false 2 [[AVal.map 1, AVal.map 2]], AObj.mq [] [(AVal.agg [AVal.str tw, AVal.str tc], AVal.ptr 3 2 0 0)] [], AObj.mp true [(AVal.str tann, AVal.tt true)], AObj.rows false 2 [[AVal.map 4, AVal.slc false 5 2 0 2 none]], AObj.mp true [], AObj.rows true 2 [[AVal.str tann, AVal.str thi], [AVal.str tann, AVal.str tho]]] (rep 92 0 nilps) (H6 [] [] tw tc [gm tann] [] false [pst thi, pst tho]), Dec.br true, Dec.br true, Dec.br true, Dec.br true, Dec.br true, Dec.br true]) = .ok (FRes.mk (AVal.bool true) ([AObj.rows false 2 [[AVal.map 1, AVal.map 2]], AObj.mq [] [(AVal.agg [AVal.str tw, AVal.str tc], AVal.ptr 3 2 0 0)] [], AObj.mp true [(AVal.str tann, AVal.tt true)], AObj.rows false 2 [[AVal.map 4, AVal.slc false 10 2 0 2 none]], AObj.mp true [], AObj.dead, AObj.rows false 3 [[iqPI 0, iqPI 0, AVal.fsl true 2 [] none]], AObj.rows false 3 [[iqPI 0, iqPI 0, AVal.fsl true 2 [] none]], AObj.dead, AObj.rows false 3 [[iqPI 0, iqPI 0, AVal.fsl true 2 [] none]], AObj.rows true 2 [[AVal.str tann, AVal.str thi], [AVal.str tann, AVal.str tho]], AObj.rows false 3 [[iqPI 0, iqPI 1, AVal.fsl true 2 [] none]], AObj.rows false 3 [[iqPI 0, iqPI 0, AVal.fsl true 2 [] none]], AObj.rows false 3 [[iqPI 92, iqPI 0, AVal.fsl true 2 [] none]]]) (tr 22 ++ ((Owed.use (owed Tryd.prog 0) 13 [0, 1, 2, 3, 4, 10] [AVal.ptr 0 2 0 0, AVal.agg [iqPI 3, AVal.str tw, AVal.str tc, AVal.str tann, AVal.str tno, AVal.str w0, AVal.str w0, iqPI 0, iqPI 0]] [AObj.rows false 2 [[AVal.map 1, AVal.map 2]], AObj.mq [] [(AVal.agg [AVal.str tw, AVal.str tc], AVal.ptr 3 2 0 0)] [], AObj.mp true [(AVal.str tann, AVal.tt true)], AObj.rows false 2 [[AVal.map 4, AVal.slc false 10 2 0 2 none]], AObj.mp true [], AObj.dead, AObj.rows false 3 [[iqPI 0, iqPI 0, AVal.fsl true 2 [] none]], AObj.rows false 3 [[iqPI 0, iqPI 0, AVal.fsl true 2 [] none]], AObj.dead, AObj.rows false 3 [[iqPI 0, iqPI 0, AVal.fsl true 2 [] none]], AObj.rows true 2 [[AVal.str tann, AVal.str thi], [AVal.str tann, AVal.str tho]], AObj.rows false 3 [[iqPI 0, iqPI 1, AVal.fsl true 2 [] none]], AObj.rows false 3 [[iqPI 0, iqPI 0, AVal.fsl true 2 [] none]]] [AVal.ptr 0 2 0 0, AVal.agg [iqPI 3, AVal.str tw, AVal.str tc, AVal.str tann, AVal.str tno, AVal.str w0, AVal.str w0, iqPI 0, iqPI 0]] [AObj.rows false 2 [[AVal.map 1, AVal.map 2]], AObj.mq [] [(AVal.agg [AVal.str tw, AVal.str tc], AVal.ptr 3 2 0 0)] [], AObj.mp true [(AVal.str tann, AVal.tt true)], AObj.rows false 2 [[AVal.map 4, AVal.slc false 5 2 0 2 none]], AObj.mp true [], AObj.rows true 2 [[AVal.str tann, AVal.str thi], [AVal.str tann, AVal.str tho]]] (AVal.agg [iqPI 92, iqPI 0, AVal.fsl true 2 [] none]) [AObj.rows false 2 [[AVal.map 1, AVal.map 2]], AObj.mq [] [(AVal.agg [AVal.str tw, AVal.str tc], AVal.ptr 3 2 0 0)] [], AObj.mp true [(AVal.str tann, AVal.tt true)], AObj.rows false 2 [[AVal.map 4, AVal.slc false 5 2 0 2 none]], AObj.mp true [], AObj.rows true 2 [[AVal.str tann, AVal.str thi], [AVal.str tann, AVal.str tho]]]) :: ((Owed.use (owed Tryd.prog 0) 15 [] [AVal.str (ByteArray.mk #[110, 111])] [AObj.rows false 2 [[AVal.map 1, AVal.map 2]], AObj.mq [] [(AVal.agg [AVal.str tw, AVal.str tc], AVal.ptr 3 2 0 0)] [], AObj.mp true [(AVal.str tann, AVal.tt true)], AObj.rows false 2 [[AVal.map 4, AVal.slc false 10 2 0 2 none]], AObj.mp true [], AObj.dead, AObj.rows false 3 [[iqPI 0, iqPI 0, AVal.fsl true 2 [] none]], AObj.rows false 3 [[iqPI 0, iqPI 0, AVal.fsl true 2 [] none]], AObj.dead, AObj.rows false 3 [[iqPI 0, iqPI 0, AVal.fsl true 2 [] none]], AObj.rows true 2 [[AVal.str tann, AVal.str thi], [AVal.str tann, AVal.str tho]], AObj.rows false 3 [[iqPI 0, iqPI 1, AVal.fsl true 2 [] none]], AObj.rows false 3 [[iqPI 0, iqPI 0, AVal.fsl true 2 [] none]]] [AVal.str (ByteArray.mk #[110, 111])] [] (AVal.agg [iqPI 3, AVal.str tw, AVal.str tc, AVal.str tann, AVal.str tno, AVal.str w0, AVal.str w0, iqPI 0, iqPI 0]) []) :: (tr 2 ++ ((Owed.use (owed Tryd.prog 0) 13 [0, 1, 2, 3, 4, 10] [AVal.ptr 0 2 0 0, AVal.agg [iqPI 7, AVal.str bqPI, AVal.str bqPI, AVal.str (ByteArray.mk #[97, 110, 110]), AVal.str bqPI, AVal.str bqPI, AVal.str bqPI, iqPI 0, iqPI 0]] [AObj.rows false 2 [[AVal.map 1, AVal.map 2]], AObj.mq [] [(AVal.agg [AVal.str tw, AVal.str tc], AVal.ptr 3 2 0 0)] [], AObj.mp true [], AObj.rows false 2 [[AVal.map 4, AVal.slc false 10 2 0 2 none]], AObj.mp true [(AVal.str tann, AVal.tt true)], AObj.dead, AObj.rows false 3 [[iqPI 0, iqPI 0, AVal.fsl true 2 [] none]], AObj.rows false 3 [[iqPI 0, iqPI 0, AVal.fsl true 2 [] none]], AObj.dead, AObj.rows false 3 [[iqPI 0, iqPI 0, AVal.fsl true 2 [] none]], AObj.rows true 2 [[AVal.str tann, AVal.str thi], [AVal.str tann, AVal.str tho]], AObj.rows false 3 [[iqPI 0, iqPI 1, AVal.fsl true 2 [] none]]] [AVal.ptr 0 2 0 0, AVal.agg [iqPI 7, AVal.str bqPI, AVal.str bqPI, AVal.str (ByteArray.mk #[97, 110, 110]), AVal.str bqPI, AVal.str bqPI, AVal.str bqPI, iqPI 0, iqPI 0]] [AObj.rows false 2 [[AVal.map 1, AVal.map 2]], AObj.mq [] [(AVal.agg [AVal.str tw, AVal.str tc], AVal.ptr 3 2 0 0)] [], AObj.mp true [], AObj.rows false 2 [[AVal.map 4, AVal.slc false 5 2 0 2 none]], AObj.mp true [(AVal.str tann, AVal.tt true)], AObj.rows true 2 [[AVal.str tann, AVal.str thi], [AVal.str tann, AVal.str tho]]] (AVal.agg [iqPI 0, iqPI 0, AVal.fsl true 2 [] none]) [AObj.rows false 2 [[AVal.map 1, AVal.map 2]], AObj.mq [] [(AVal.agg [AVal.str tw, AVal.str tc], AVal.ptr 3 2 0 0)] [], AObj.mp true [(AVal.str tann, AVal.tt true)], AObj.rows false 2 [[AVal.map 4, AVal.slc false 5 2 0 2 none]], AObj.mp true [], AObj.rows true 2 [[AVal.str tann, AVal.str thi], [AVal.str tann, AVal.str tho]]]) :: (tr 2 ++ ((Owed.use (owed Tryd.prog 0) 13 [0, 1, 2, 3, 4, 8] [AVal.ptr 0 2 0 0, AVal.agg [iqPI 3, AVal.str tw, AVal.str tc, AVal.str tann, AVal.str tho, AVal.str w0, AVal.str w0, iqPI 0, iqPI 0]] [AObj.rows false 2 [[AVal.map 1, AVal.map 2]], AObj.mq [] [(AVal.agg [AVal.str tw, AVal.str tc], AVal.ptr 3 2 0 0)] [], AObj.mp true [], AObj.rows false 2 [[AVal.map 4, AVal.slc false 8 2 0 1 none]], AObj.mp true [(AVal.str tann, AVal.tt true)], AObj.dead, AObj.rows false 3 [[iqPI 0, iqPI 0, AVal.fsl true 2 [] none]], AObj.rows false 3 [[iqPI 0, iqPI 0, AVal.fsl true 2 [] none]], AObj.rows true 2 [[AVal.str tann, AVal.str thi]], AObj.rows false 3 [[iqPI 0, iqPI 0, AVal.fsl true 2 [] none]]] [AVal.ptr 0 2 0 0, AVal.agg [iqPI 3, AVal.str tw, AVal.str tc, AVal.str tann, AVal.str tho, AVal.str w0, AVal.str w0, iqPI 0, iqPI 0]] [AObj.rows false 2 [[AVal.map 1, AVal.map 2]], AObj.mq [] [(AVal.agg [AVal.str tw, AVal.str tc], AVal.ptr 3 2 0 0)] [], AObj.mp true [], AObj.rows false 2 [[AVal.map 4, AVal.slc false 5 2 0 1 none]], AObj.mp true [(AVal.str tann, AVal.tt true)], AObj.rows true 2 [[AVal.str tann, AVal.str thi]]] (AVal.agg [iqPI 0, iqPI 1, AVal.fsl true 2 [] none]) [AObj.rows false 2 [[AVal.map 1, AVal.map 2]], AObj.mq [] [(AVal.agg [AVal.str tw, AVal.str tc], AVal.ptr 3 2 0 0)] [], AObj.mp true [], AObj.rows false 2 [[AVal.map 4, AVal.slc false 6 2 0 2 none]], AObj.mp true [(AVal.str tann, AVal.tt true)], AObj.dead, AObj.rows true 2 [[AVal.str tann, AVal.str thi], [AVal.str tann, AVal.str tho]]]) :: ((Owed.use (owed Tryd.prog 0) 15 [] [AVal.str (ByteArray.mk #[104, 111])] [AObj.rows false 2 [[AVal.map 1, AVal.map 2]], AObj.mq [] [(AVal.agg [AVal.str tw, AVal.str tc], AVal.ptr 3 2 0 0)] [], AObj.mp true [], AObj.rows false 2 [[AVal.map 4, AVal.slc false 8 2 0 1 none]], AObj.mp true [(AVal.str tann, AVal.tt true)], AObj.dead, AObj.rows false 3 [[iqPI 0, iqPI 0, AVal.fsl true 2 [] none]], AObj.rows false 3 [[iqPI 0, iqPI 0, AVal.fsl true 2 [] none]], AObj.rows true 2 [[AVal.str tann, AVal.str thi]], AObj.rows false 3 [[iqPI 0, iqPI 0, AVal.fsl true 2 [] none]]] [AVal.str (ByteArray.mk #[104, 111])] [] (AVal.agg [iqPI 3, AVal.str tw, AVal.str tc, AVal.str tann, AVal.str tho, AVal.str w0, AVal.str w0, iqPI 0, iqPI 0]) []) :: (tr 2 ++ ((Owed.use (owed Tryd.prog 0) 13 [0, 1, 2, 3, 4, 5] [AVal.ptr 0 2 0 0, AVal.agg [iqPI 3, AVal.str tw, AVal.str tc, AVal.str tann, AVal.str thi, AVal.str w0, AVal.str w0, iqPI 0, iqPI 0]] [AObj.rows false 2 [[AVal.map 1, AVal.map 2]], AObj.mq [] [(AVal.agg [AVal.str tw, AVal.str tc], AVal.ptr 3 2 0 0)] [], AObj.mp true [], AObj.rows false 2 [[AVal.map 4, AVal.slc true 5 2 0 0 none]], AObj.mp true [(AVal.str tann, AVal.tt true)], AObj.rows true 2 [], AObj.rows false 3 [[iqPI 0, iqPI 0, AVal.fsl true 2 [] none]], AObj.rows false 3 [[iqPI 0, iqPI 0, AVal.fsl true 2 [] none]]] [AVal.ptr 0 2 0 0, AVal.agg [iqPI 3, AVal.str tw, AVal.str tc, AVal.str tann, AVal.str thi, AVal.str w0, AVal.str w0, iqPI 0, iqPI 0]] [AObj.rows false 2 [[AVal.map 1, AVal.map 2]], AObj.mq [] [(AVal.agg [AVal.str tw, AVal.str tc], AVal.ptr 3 2 0 0)] [], AObj.mp true [], AObj.rows false 2 [[AVal.map 4, AVal.slc true 5 2 0 0 none]], AObj.mp true [(AVal.str tann, AVal.tt true)], AObj.rows true 2 []] (AVal.agg [iqPI 0, iqPI 0, AVal.fsl true 2 [] none]) [AObj.rows false 2 [[AVal.map 1, AVal.map 2]], AObj.mq [] [(AVal.agg [AVal.str tw, AVal.str tc], AVal.ptr 3 2 0 0)] [], AObj.mp true [], AObj.rows false 2 [[AVal.map 4, AVal.slc false 6 2 0 1 none]], AObj.mp true [(AVal.str tann, AVal.tt true)], AObj.dead, AObj.rows true 2 [[AVal.str tann, AVal.str thi]]]) :: ((Owed.use (owed Tryd.prog 0) 15 [] [AVal.str (ByteArray.mk #[104, 105])] [AObj.rows false 2 [[AVal.map 1, AVal.map 2]], AObj.mq [] [(AVal.agg [AVal.str tw, AVal.str tc], AVal.ptr 3 2 0 0)] [], AObj.mp true [], AObj.rows false 2 [[AVal.map 4, AVal.slc true 5 2 0 0 none]], AObj.mp true [(AVal.str tann, AVal.tt true)], AObj.rows true 2 [], AObj.rows false 3 [[iqPI 0, iqPI 0, AVal.fsl true 2 [] none]], AObj.rows false 3 [[iqPI 0, iqPI 0, AVal.fsl true 2 [] none]]] [AVal.str (ByteArray.mk #[104, 105])] [] (AVal.agg [iqPI 3, AVal.str tw, AVal.str tc, AVal.str tann, AVal.str thi, AVal.str w0, AVal.str w0, iqPI 0, iqPI 0]) []) :: (tr 2 ++ ((Owed.use (owed Tryd.prog 0) 13 [0, 1, 2, 3, 4, 5] [AVal.ptr 0 2 0 0, AVal.agg [iqPI 2, AVal.str (ByteArray.mk #[119]), AVal.str (ByteArray.mk #[99]), AVal.str (ByteArray.mk #[97, 110, 110]), AVal.str bqPI, AVal.str bqPI, AVal.str bqPI, iqPI 0, iqPI 0]] [AObj.rows false 2 [[AVal.map 1, AVal.map 2]], AObj.mq [] [(AVal.agg [AVal.str tw, AVal.str tc], AVal.ptr 3 2 0 0)] [], AObj.mp true [], AObj.rows false 2 [[AVal.map 4, AVal.slc true 5 2 0 0 none]], AObj.mp true [], AObj.rows true 2 [], AObj.rows false 3 [[iqPI 0, iqPI 0, AVal.fsl true 2 [] none]]] [AVal.ptr 0 2 0 0, AVal.agg [iqPI 2, AVal.str (ByteArray.mk #[119]), AVal.str (ByteArray.mk #[99]), AVal.str (ByteArray.mk #[97, 110, 110]), AVal.str bqPI, AVal.str bqPI, AVal.str bqPI, iqPI 0, iqPI 0]] [AObj.rows false 2 [[AVal.map 1, AVal.map 2]], AObj.mq [] [(AVal.agg [AVal.str tw, AVal.str tc], AVal.ptr 3 2 0 0)] [], AObj.mp true [], AObj.rows false 2 [[AVal.map 4, AVal.slc true 5 2 0 0 none]], AObj.mp true [], AObj.rows true 2 []] (AVal.agg [iqPI 0, iqPI 0, AVal.fsl true 2 [] none]) [AObj.rows false 2 [[AVal.map 1, AVal.map 2]], AObj.mq [] [(AVal.agg [AVal.str tw, AVal.str tc], AVal.ptr 3 2 0 0)] [], AObj.mp true [], AObj.rows false 2 [[AVal.map 4, AVal.slc true 5 2 0 0 none]], AObj.mp true [(AVal.str tann, AVal.tt true)], AObj.rows true 2 []]) :: (tr 2 ++ ((Owed.use (owed Tryd.prog 0) 13 [0, 1, 2] [AVal.ptr 0 2 0 0, AVal.agg [iqPI 1, AVal.str (ByteArray.mk #[119]), AVal.str (ByteArray.mk #[99]), AVal.str bqPI, AVal.str bqPI, AVal.str bqPI, AVal.str bqPI, iqPI 0, iqPI 0]] [AObj.rows false 2 [[AVal.map 1, AVal.map 2]], AObj.mq [] [] [], AObj.mp true []] [AVal.ptr 0 2 0 0, AVal.agg [iqPI 1, AVal.str (ByteArray.mk #[119]), AVal.str (ByteArray.mk #[99]), AVal.str bqPI, AVal.str bqPI, AVal.str bqPI, AVal.str bqPI, iqPI 0, iqPI 0]] [AObj.rows false 2 [[AVal.map 1, AVal.map 2]], AObj.mq [] [] [], AObj.mp true []] (AVal.agg [iqPI 0, iqPI 0, AVal.fsl true 2 [] none]) [AObj.rows false 2 [[AVal.map 1, AVal.map 2]], AObj.mq [] [(AVal.agg [AVal.str tw, AVal.str tc], AVal.ptr 3 2 0 0)] [], AObj.mp true [], AObj.rows false 2 [[AVal.map 4, AVal.slc true 5 2 0 0 none]], AObj.mp true [], AObj.rows true 2 []]) :: ((false = false) :: ((Owed.use (owed Tryd.prog 0) 12 [] [] [] [] [] (AVal.ptr 0 2 0 0) [AObj.rows false 2 [[AVal.map 1, AVal.map 2]], AObj.mq [] [] [], AObj.mp true []]) :: [])))))))))))))))))) by kernel_rfl) (allP_of (trC 22 ⟨⟨h1, rfl, rfl, rfl⟩, ⟨⟨h2, rfl, rfl, rfl⟩, (trC 2 ⟨⟨h3, rfl, rfl, rfl⟩, (trC 2 ⟨⟨h4, rfl, rfl, rfl⟩, ⟨⟨h5, rfl, rfl, rfl⟩, (trC 2 ⟨⟨h6, rfl, rfl, rfl⟩, ⟨⟨h7, rfl, rfl, rfl⟩, (trC 2 ⟨⟨h8, rfl, rfl, rfl⟩, (trC 2 ⟨⟨h9, rfl, rfl, rfl⟩, ⟨rfl, ⟨⟨h10, rfl, rfl, rfl⟩, trivial⟩⟩⟩)⟩)⟩⟩)⟩⟩)⟩)⟩⟩))).move ([]) (by kernel_rfl) (by kernel_rfl) (by kernel_rfl)

def awk_T (Q : AVal → AState → Prop) : Prop := (FOk Tryd.prog 12 [] [] (AVal.ptr 0 2 0 0) [AObj.rows false 2 [[AVal.map 1, AVal.map 2]], AObj.mq [] [] [], AObj.mp true []]) ∧ (FOk Tryd.prog 13 [AVal.ptr 0 2 0 0, AVal.agg [AVal.int IntKind.i64 1, AVal.str (ByteArray.mk #[119]), AVal.str (ByteArray.mk #[99]), AVal.str (ByteArray.mk #[]), AVal.str (ByteArray.mk #[]), AVal.str (ByteArray.mk #[]), AVal.str (ByteArray.mk #[]), AVal.int IntKind.i64 0, AVal.int IntKind.i64 0]] [AObj.rows false 2 [[AVal.map 1, AVal.map 2]], AObj.mq [] [] [], AObj.mp true []] (AVal.agg [AVal.int IntKind.i64 0, AVal.int IntKind.i64 0, AVal.fsl true 2 [] none]) [AObj.rows false 2 [[AVal.map 1, AVal.map 2]], AObj.mq [] [(AVal.agg [AVal.str tw, AVal.str tc], AVal.ptr 3 2 0 0)] [], AObj.mp true [], AObj.rows false 2 [[AVal.map 4, AVal.slc true 5 2 0 0 none]], AObj.mp true [], AObj.rows true 2 []]) ∧ (FOk Tryd.prog 13 [AVal.ptr 0 2 0 0, AVal.agg [AVal.int IntKind.i64 2, AVal.str (ByteArray.mk #[119]), AVal.str (ByteArray.mk #[99]), AVal.str (ByteArray.mk #[97, 110, 110]), AVal.str (ByteArray.mk #[]), AVal.str (ByteArray.mk #[]), AVal.str (ByteArray.mk #[]), AVal.int IntKind.i64 0, AVal.int IntKind.i64 0]] [AObj.rows false 2 [[AVal.map 1, AVal.map 2]], AObj.mq [] [(AVal.agg [AVal.str tw, AVal.str tc], AVal.ptr 3 2 0 0)] [], AObj.mp true [], AObj.rows false 2 [[AVal.map 4, AVal.slc true 5 2 0 0 none]], AObj.mp true [], AObj.rows true 2 []] (AVal.agg [AVal.int IntKind.i64 0, AVal.int IntKind.i64 0, AVal.fsl true 2 [] none]) [AObj.rows false 2 [[AVal.map 1, AVal.map 2]], AObj.mq [] [(AVal.agg [AVal.str tw, AVal.str tc], AVal.ptr 3 2 0 0)] [], AObj.mp true [], AObj.rows false 2 [[AVal.map 4, AVal.slc true 5 2 0 0 none]], AObj.mp true [(AVal.str tann, AVal.tt true)], AObj.rows true 2 []]) ∧ (FOk Tryd.prog 15 [AVal.str (ByteArray.mk #[104, 105])] [] (AVal.agg [AVal.int IntKind.i64 3, AVal.str tw, AVal.str tc, AVal.str tann, AVal.str thi, AVal.str w0, AVal.str w0, AVal.int IntKind.i64 0, AVal.int IntKind.i64 0]) []) ∧ (FOk Tryd.prog 13 [AVal.ptr 0 2 0 0, AVal.agg [AVal.int IntKind.i64 3, AVal.str tw, AVal.str tc, AVal.str tann, AVal.str thi, AVal.str w0, AVal.str w0, AVal.int IntKind.i64 0, AVal.int IntKind.i64 0]] [AObj.rows false 2 [[AVal.map 1, AVal.map 2]], AObj.mq [] [(AVal.agg [AVal.str tw, AVal.str tc], AVal.ptr 3 2 0 0)] [], AObj.mp true [], AObj.rows false 2 [[AVal.map 4, AVal.slc true 5 2 0 0 none]], AObj.mp true [(AVal.str tann, AVal.tt true)], AObj.rows true 2 []] (AVal.agg [AVal.int IntKind.i64 0, AVal.int IntKind.i64 0, AVal.fsl true 2 [] none]) [AObj.rows false 2 [[AVal.map 1, AVal.map 2]], AObj.mq [] [(AVal.agg [AVal.str tw, AVal.str tc], AVal.ptr 3 2 0 0)] [], AObj.mp true [], AObj.rows false 2 [[AVal.map 4, AVal.slc false 6 2 0 1 none]], AObj.mp true [(AVal.str tann, AVal.tt true)], AObj.dead, AObj.rows true 2 [[AVal.str tann, AVal.str thi]]]) ∧ (FOk Tryd.prog 15 [AVal.str (ByteArray.mk #[104, 111])] [] (AVal.agg [AVal.int IntKind.i64 3, AVal.str tw, AVal.str tc, AVal.str tann, AVal.str tho, AVal.str w0, AVal.str w0, AVal.int IntKind.i64 0, AVal.int IntKind.i64 0]) []) ∧ (FOk Tryd.prog 13 [AVal.ptr 0 2 0 0, AVal.agg [AVal.int IntKind.i64 3, AVal.str tw, AVal.str tc, AVal.str tann, AVal.str tho, AVal.str w0, AVal.str w0, AVal.int IntKind.i64 0, AVal.int IntKind.i64 0]] [AObj.rows false 2 [[AVal.map 1, AVal.map 2]], AObj.mq [] [(AVal.agg [AVal.str tw, AVal.str tc], AVal.ptr 3 2 0 0)] [], AObj.mp true [], AObj.rows false 2 [[AVal.map 4, AVal.slc false 5 2 0 1 none]], AObj.mp true [(AVal.str tann, AVal.tt true)], AObj.rows true 2 [[AVal.str tann, AVal.str thi]]] (AVal.agg [AVal.int IntKind.i64 0, AVal.int IntKind.i64 1, AVal.fsl true 2 [] none]) [AObj.rows false 2 [[AVal.map 1, AVal.map 2]], AObj.mq [] [(AVal.agg [AVal.str tw, AVal.str tc], AVal.ptr 3 2 0 0)] [], AObj.mp true [], AObj.rows false 2 [[AVal.map 4, AVal.slc false 6 2 0 2 none]], AObj.mp true [(AVal.str tann, AVal.tt true)], AObj.dead, AObj.rows true 2 [[AVal.str tann, AVal.str thi], [AVal.str tann, AVal.str tho]]]) ∧ (FOk Tryd.prog 13 [AVal.ptr 0 2 0 0, AVal.agg [AVal.int IntKind.i64 7, AVal.str (ByteArray.mk #[]), AVal.str (ByteArray.mk #[]), AVal.str (ByteArray.mk #[97, 110, 110]), AVal.str (ByteArray.mk #[]), AVal.str (ByteArray.mk #[]), AVal.str (ByteArray.mk #[]), AVal.int IntKind.i64 0, AVal.int IntKind.i64 0]] [AObj.rows false 2 [[AVal.map 1, AVal.map 2]], AObj.mq [] [(AVal.agg [AVal.str tw, AVal.str tc], AVal.ptr 3 2 0 0)] [], AObj.mp true [], AObj.rows false 2 [[AVal.map 4, AVal.slc false 5 2 0 2 none]], AObj.mp true [(AVal.str tann, AVal.tt true)], AObj.rows true 2 [[AVal.str tann, AVal.str thi], [AVal.str tann, AVal.str tho]]] (AVal.agg [AVal.int IntKind.i64 0, AVal.int IntKind.i64 0, AVal.fsl true 2 [] none]) [AObj.rows false 2 [[AVal.map 1, AVal.map 2]], AObj.mq [] [(AVal.agg [AVal.str tw, AVal.str tc], AVal.ptr 3 2 0 0)] [], AObj.mp true [(AVal.str tann, AVal.tt true)], AObj.rows false 2 [[AVal.map 4, AVal.slc false 5 2 0 2 none]], AObj.mp true [], AObj.rows true 2 [[AVal.str tann, AVal.str thi], [AVal.str tann, AVal.str tho]]]) ∧ (FOk Tryd.prog 15 [AVal.str (ByteArray.mk #[110, 111])] [] (AVal.agg [AVal.int IntKind.i64 3, AVal.str tw, AVal.str tc, AVal.str tann, AVal.str tno, AVal.str w0, AVal.str w0, AVal.int IntKind.i64 0, AVal.int IntKind.i64 0]) []) ∧ (FOk Tryd.prog 13 [AVal.ptr 0 2 0 0, AVal.agg [AVal.int IntKind.i64 3, AVal.str tw, AVal.str tc, AVal.str tann, AVal.str tno, AVal.str w0, AVal.str w0, AVal.int IntKind.i64 0, AVal.int IntKind.i64 0]] [AObj.rows false 2 [[AVal.map 1, AVal.map 2]], AObj.mq [] [(AVal.agg [AVal.str tw, AVal.str tc], AVal.ptr 3 2 0 0)] [], AObj.mp true [(AVal.str tann, AVal.tt true)], AObj.rows false 2 [[AVal.map 4, AVal.slc false 5 2 0 2 none]], AObj.mp true [], AObj.rows true 2 [[AVal.str tann, AVal.str thi], [AVal.str tann, AVal.str tho]]] (AVal.agg [AVal.int IntKind.i64 92, AVal.int IntKind.i64 0, AVal.fsl true 2 [] none]) [AObj.rows false 2 [[AVal.map 1, AVal.map 2]], AObj.mq [] [(AVal.agg [AVal.str tw, AVal.str tc], AVal.ptr 3 2 0 0)] [], AObj.mp true [(AVal.str tann, AVal.tt true)], AObj.rows false 2 [[AVal.map 4, AVal.slc false 5 2 0 2 none]], AObj.mp true [], AObj.rows true 2 [[AVal.str tann, AVal.str thi], [AVal.str tann, AVal.str tho]]]) ∧ Q (AVal.bool true) ([])
theorem awk_wp {Q : AVal → AState → Prop} (h : awk_T Q) : ∃ r σ', FOk Tryd.prog 14 ([]) ([]) r σ' ∧ Q r σ' :=
  ⟨_, _, awk_1 (h.2.2.2.2.2.2.2.2.2.1) (h.2.2.2.2.2.2.2.2.1) (h.2.2.2.2.2.2.2.1) (h.2.2.2.2.2.2.1) (h.2.2.2.2.2.1) (h.2.2.2.2.1) (h.2.2.2.1) (h.2.2.1) (h.2.1) (h.1), h.2.2.2.2.2.2.2.2.2.2⟩


end Go.MN
end

section
set_option linter.unusedVariables false
set_option maxRecDepth 100000
namespace Go.MN
open Go Go.Abs Go.Proofs
abbrev vw : ByteArray := ⟨#[119]⟩
abbrev vc : ByteArray := ⟨#[99]⟩
end Go.MN
end

section
set_option linter.unusedVariables false
set_option linter.unusedSimpArgs false
set_option maxRecDepth 100000
namespace Go.MN
open Go Go.Abs Go.Proofs

abbrev bx (l : List UInt8) : ByteArray := ⟨l.toArray⟩
theorem offs_loop (s y : ByteArray) (off mem : List (AVal × AVal)) (b c : Nat) (u : ByteArray) (ps : List (List AVal)) (f : Bool) (hm : (mem.all fun p => keyKind Tryd.prog 9 p.1) = true) :
    TripN Tryd.prog 6 (.loop (loopNo Tryd.f13 0)) RO (HO [(ky s y, .ptr 3 2 0 0)] off mem [b] c [] u ps f) (.exit 1) RO (HO [(ky s y, .ptr 3 2 0 0)] off (adel (.str u) mem) [b] c [b] u ps f) := by
  let I : List Nat → Regs → AState → Prop := fun seen rg σ => (seen = [] ∧ rg = RO ∧ σ = HO [(ky s y, .ptr 3 2 0 0)] off mem [b] c [] u ps f) ∨ (seen = [b] ∧ rg = RO ∧ σ = HO [(ky s y, .ptr 3 2 0 0)] off (adel (.str u) mem) [b] c [b] u ps f)
  have hL := mapLoop (P := Tryd.prog) (N := 6) (c := loopNo Tryd.f13 0) (rest := restOf (loopNo Tryd.f13 0)) (Post := fun e rg σ => e = .exit 1 ∧ rg = RO ∧ σ = HO [(ky s y, .ptr 3 2 0 0)] off (adel (.str u) mem) [b] c [b] u ps f) rfl [b] I ?_ _ _ [] (.inl ⟨rfl, rfl, rfl⟩)
  · exact RunD.trip (LoopD.runD hL)
  · rintro seen rg σ (⟨rfl, rfl, rfl⟩ | ⟨rfl, rfl, rfl⟩)
    · refine ⟨8, 1, 1, c, false, _, [b], rfl, rfl, rfl, (by show 78 < 97; decide), fun b hb => hb, fun b' hb1 hb2 => ?_, fun hall => absurd (hall b (by simp)) (by simp)⟩
      obtain rfl : b' = b := by simpa using hb1
      refine RunD.of (offB_wp s y off mem b' c u ps f ?_)
      unfold offB_T
      refine ⟨?_, ?_, hm, .inl ⟨rfl, .inr ⟨rfl, rfl, rfl⟩⟩⟩ <;> simp [entV, entAt]
    · refine ⟨8, 1, 1, c, false, _, [b], rfl, rfl, rfl, (by show 78 < 97; decide), fun b hb => hb, fun b' hb1 hb2 => absurd hb1 hb2, fun hall => ?_⟩
      refine RunD.of (offX_wp s y off (adel (.str u) mem) b c u ps f ?_)
      unfold offX_T
      exact ⟨by simp, rfl, rfl, rfl⟩
end Go.MN
end

section
set_option linter.unusedVariables false
set_option linter.unusedSimpArgs false
set_option maxRecDepth 100000
namespace Go.MN
open Go Go.Abs Go.Proofs
theorem doO1 (s y u : ByteArray) (us : List ByteArray) (f : Bool) (ps : List (List AVal)) (hne : s ≠ w0) (ck : FOk Tryd.prog 21 [opw 7 w0 w0 u w0 w0 w0 0 0] [] (.int .i64 0) []) :
    FOk Tryd.prog 13 [.ptr 0 2 0 0, opw 7 w0 w0 u w0 w0 w0 0 0] (H6 [] [] s y [] (gms us) f ps) (rep 0 0 nilps) (H6 [] [] s y [gm u] (gms (us.erase u)) f ps) := by
  refine mq1 (id := 1) (own := [(ky s y, .ptr 3 2 0 0)]) ?_ rfl
  refine FOk.born (id := 1) (p := false) (ents := [(ky s y, .ptr 3 2 0 0)]) rfl fun bs c hb hl => ?_
  obtain ⟨b, rfl⟩ : ∃ b, bs = [b] := by
    match bs, hl with
    | [b], _ => exact ⟨b, rfl⟩
  have h : FOk Tryd.prog 13 [.ptr 0 2 0 0, opw 7 w0 w0 u w0 w0 w0 0 0] (H6n [(ky s y, .ptr 3 2 0 0)] [] (gms us) [b] c ps f) (rep 0 0 nilps) (H6n [(ky s y, .ptr 3 2 0 0)] [gm u] (adel (.str u) (gms us)) [b] c ps f) := by
    refine FOk.wp (dO_wp s y u ps (gms us) f b c ?_)
    unfold dO_T
    have hf : afind (ky w0 w0) [(ky s y, AVal.ptr 3 2 0 0)] = none := by
      show (if keq (ky w0 w0) (ky s y) = true then _ else none) = _
      rw [keq_ky, decide_eq_false (fun e => hne e.symm)]; rfl
    rw [hf]
    exact ⟨FOk.wp (given6e_wp s y [] (gms us) [b] c ps f ⟨rfl, rfl⟩), ck, rfl, offs_loop s y [gm u] (gms us) b c u ps f (kk9s us), rfl, rfl⟩
  rw [adel_gm] at h
  exact unmq1 (id := 1) (h.unborn (id := 1) rfl) rfl

theorem ckk1 {s c u x y z : ByteArray} {f m : Int} (hx : x.size ≤ 140737488355328) (hm : may1 s c u x y z f m = true) : FOk Tryd.prog 21 [opw 1 s c u x y z f m] [] (.int .i64 0) [] := by
  have := ck1_ok s c u x y z f m hx
  rw [hm] at this; exact this
theorem ckk2 {s c u x y z : ByteArray} {f m : Int} (hx : x.size ≤ 140737488355328) (hm : may2 s c u x y z f m = true) : FOk Tryd.prog 21 [opw 2 s c u x y z f m] [] (.int .i64 0) [] := by
  have := ck2_ok s c u x y z f m hx
  rw [hm] at this; exact this
theorem ckk3 {s c u x y z : ByteArray} {f m : Int} (hx : x.size ≤ 140737488355328) (hm : may3 s c u x y z f m = true) : FOk Tryd.prog 21 [opw 3 s c u x y z f m] [] (.int .i64 0) [] := by
  have := ck3_ok s c u x y z f m hx
  rw [hm] at this; exact this
theorem ckk7 {s c u x y z : ByteArray} {f m : Int} (hx : x.size ≤ 140737488355328) (hm : may7 s c u x y z f m = true) : FOk Tryd.prog 21 [opw 7 s c u x y z f m] [] (.int .i64 0) [] := by
  have := ck7_ok s c u x y z f m hx
  rw [hm] at this; exact this
theorem small (x : ByteArray) (h : x.size ≤ 100 := by decide) : x.size ≤ 140737488355328 := by omega
theorem ckM : FOk Tryd.prog 21 [opw 1 vw vc w0 w0 w0 w0 0 0] [] (.int .i64 0) [] := ckk1 (small _) (by decide +kernel)
theorem ckA : FOk Tryd.prog 21 [opw 2 vw vc tann w0 w0 w0 0 0] [] (.int .i64 0) [] := ckk2 (small _) (by decide +kernel)
theorem ckF : FOk Tryd.prog 21 [opw 7 w0 w0 tann w0 w0 w0 0 0] [] (.int .i64 0) [] := ckk7 (small _) (by decide +kernel)
theorem ckP (x : ByteArray) (h : x = thi ∨ x = tho ∨ x = tno) : FOk Tryd.prog 21 [opw 3 tw tc tann x w0 w0 0 0] [] (.int .i64 0) [] := by
  rcases h with rfl | rfl | rfl <;> exact ckk3 (small _) (by decide +kernel)
end Go.MN
end

section
set_option linter.unusedVariables false
set_option linter.unusedSimpArgs false
set_option maxRecDepth 100000
namespace Go.MN
open Go Go.Abs Go.Proofs
theorem keysNil : keysOk ([] ++ []) := fun e he => by simp at he
theorem doP (pre post : Ents) (s c u x : ByteArray) (offs us : List ByteArray) (b : Bool) (ps : List (List AVal)) (ck : FOk Tryd.prog 21 [opw 3 s c u x w0 w0 0 0] [] (.int .i64 0) []) (hk : keysOk (pre ++ post)) (hn : afind (ky s c) pre = none) (h : u ∉ offs) (h2 : u ∈ us) (hp : ps.length < 1024) :
    FOk Tryd.prog 13 [.ptr 0 2 0 0, opw 3 s c u x w0 w0 0 0] (H6 pre post s c (gms offs) (gms us) b ps) (rep 0 ps.length nilps) [.rows false 2 [[.map 1, .map 2]], .mq pre [(ky s c, .ptr 3 2 0 0)] post, .mp true (gms offs), .rows false 2 [[.map 4, .slc (b && false) 6 2 0 (ps.length + 1) none]], .mp true (gms us), .dead, .rows true 2 (ps ++ [[.str u, .str x]])] := by
  have hw : FOk Tryd.prog 31 [.ptr 0 2 0 0, ky s c, .ptr 1 2 0 0, opw 3 s c u x w0 w0 0 0] (W6 pre post s c (gms offs) (gms us) b ps) (rep 0 ps.length nilps) [.rows false 2 [[.map 2, .map 3]], .rows false 2 [[.map 4, .slc (b && false) 6 2 0 (ps.length + 1) none]], .mq pre [(ky s c, .ptr 1 2 0 0)] post, .mp true (gms offs), .mp true (gms us), .dead, .rows true 2 (ps ++ [[.str u, .str x]])] := by
    have hi : IntKind.wrap .i64 (((ps.length + 1 : Nat) : Int) - 1) = (ps.length : Int) := by rw [wrapS (by omega) (by omega)]; omega
    refine FOk.wp (wP_wp pre post s c u x (gms offs) (gms us) b ps false true ?_)
    unfold wP_T
    rw [getD_gm, getD_gm, decide_eq_false h, decide_eq_true h2, hi]
    exact ⟨kk9s _, ok4 _, by rw [if_neg (by simp)]; exact as4 false, (fun h => by cases h), fun _ => ⟨kk9s _, ok4 _, by rw [if_neg (by simp)]; exact as4 true, (fun h => by cases h), fun _ => ⟨fun h => absurd (of_decide_eq_true h) (by omega), fun _ => ⟨decide_eq_true (by omega), rfl, rfl⟩⟩⟩⟩
  refine FOk.wp (dP_wp pre post s c u x (gms offs) (gms us) b ps ps.length ?_)
  unfold dP_T
  rw [afind_mid s c _ pre post hn]
  exact ⟨given6 .., ck, keys_all (keys_mid hk), rfl, hw, rfl, rfl⟩
theorem wP_off (pre post : Ents) (s c u x : ByteArray) (offs us : List ByteArray) (b : Bool) (ps : List (List AVal)) (h : u ∈ offs) : FOk Tryd.prog 31 [.ptr 0 2 0 0, ky s c, .ptr 1 2 0 0, opw 3 s c u x w0 w0 0 0] (W6 pre post s c (gms offs) (gms us) b ps) (rep 92 0 nilps) (W6 pre post s c (gms offs) (gms us) b ps) := by
  refine FOk.wp (wP_wp pre post s c u x (gms offs) (gms us) b ps true false ?_)
  unfold wP_T
  rw [getD_gm, decide_eq_true h]
  exact ⟨kk9s _, ok4 _, by rw [if_neg (by simp)]; exact as4 true, fun _ => ⟨rfl, rfl⟩, fun h => by cases h⟩
theorem pos_ok (x : ByteArray) : FOk Tryd.prog 15 [.str x] [] (opw 3 tw tc tann x w0 w0 0 0) [] := FOk.wp (pos_wp x ⟨rfl, rfl⟩)
theorem awake_ok : FOk Tryd.prog 14 [] [] (.bool true) [] := by
  refine FOk.wp (awk_wp ?_)
  unfold awk_T
  exact ⟨new_ok, doM3 [] (gms []) tw tc ckM (fun e he => by simp at he) rfl, doJ [] [] tw tc tann [] [] true [] ckA keysNil rfl (by simp) (by simp), pos_ok thi, doP [] [] tw tc tann thi [] [tann] true [] (ckP thi (.inl rfl)) keysNil rfl (by simp) (by simp) (by decide),
    pos_ok tho, doP [] [] tw tc tann tho [] [tann] false [pst thi] (ckP tho (.inr (.inl rfl))) keysNil rfl (by simp) (by simp) (by decide), doO1 tw tc tann [tann] false [pst thi, pst tho] (by decide) ckF, pos_ok tno,
    doS [] [] 3 tw tc tann tno w0 w0 0 0 (gms [tann]) (gms []) false [pst thi, pst tho] 92 0 true [] (ckP tno (.inr (.inr rfl))) keysNil rfl (by decide) (by decide) (by decide) (wP_off [] [] tw tc tann tno [tann] [] false [pst thi, pst tho] (by simp)), rfl, rfl⟩
end Go.MN
end

section
set_option linter.unusedVariables false
set_option linter.unusedSimpArgs false
set_option maxRecDepth 100000
namespace Go.MN
open Go Go.Abs Go.Proofs
structure Ch where
  s : ByteArray
  c : ByteArray
  us : List ByteArray
  ps : List (List AVal)
  b : Bool
  p : Nat
  q : Nat
  r : Nat
abbrev Ch.pl (x : Ch) : List Nat := [x.p, x.q, x.r]
abbrev Ch.ent (x : Ch) : AVal × AVal := (ky x.s x.c, .ptr x.p 2 0 0)
abbrev entsOf (cs : List Ch) : Ents := cs.map Ch.ent
structure MT (T : AState) (cs : List Ch) (offs : List ByteArray) : Prop where
  h0 : T[0]? = some (.rows false 2 [[.map 1, .map 2]])
  h1 : T[1]? = some (.mp false (entsOf cs))
  h2 : T[2]? = some (.mp true (gms offs))
  hp : ∀ x ∈ cs, T[x.p]? = some (.rows false 2 [[.map x.q, .slc x.b x.r 2 0 x.ps.length none]])
  hq : ∀ x ∈ cs, T[x.q]? = some (.mp true (gms x.us))
  hr : ∀ x ∈ cs, T[x.r]? = some (.rows true 2 x.ps)
  nd : ((List.range 3) ++ cs.flatMap Ch.pl).Nodup
  ng : noGh T = true
theorem MT.lt {T : AState} {cs : List Ch} {offs : List ByteArray} (h : MT T cs offs) : 3 ≤ T.length ∧ ∀ x ∈ cs, x.p < T.length ∧ x.q < T.length ∧ x.r < T.length :=
  ⟨(List.getElem?_eq_some_iff.1 h.h2).1, fun x hx => ⟨(List.getElem?_eq_some_iff.1 (h.hp x hx)).1, (List.getElem?_eq_some_iff.1 (h.hq x hx)).1, (List.getElem?_eq_some_iff.1 (h.hr x hx)).1⟩⟩
theorem MT.one {T : AState} {cs1 cs2 : List Ch} {x : Ch} {offs : List ByteArray} (h : MT T (cs1 ++ [x] ++ cs2) offs) :
    (∀ j ∈ x.pl, 3 ≤ j) ∧ x.p ≠ x.q ∧ x.p ≠ x.r ∧ x.q ≠ x.r ∧ ∀ y ∈ cs1 ++ cs2, ∀ j ∈ y.pl, 3 ≤ j ∧ j ∉ x.pl := by
  have hn := h.nd
  rw [List.nodup_append] at hn
  obtain ⟨_, hn, h3⟩ := hn
  have hge : ∀ y ∈ cs1 ++ [x] ++ cs2, ∀ j ∈ y.pl, 3 ≤ j := fun y hy j hj => by
    rcases Nat.lt_or_ge j 3 with h | h
    · exact absurd rfl (h3 j (by simpa using h) j (List.mem_flatMap.2 ⟨y, hy, hj⟩))
    · exact h
  rw [List.flatMap_append, List.flatMap_append, List.flatMap_singleton, List.append_assoc, List.nodup_append] at hn
  obtain ⟨n1, n2, d1⟩ := hn
  rw [List.nodup_append] at n2
  obtain ⟨nx, n3, d2⟩ := n2
  simp [Ch.pl] at nx
  refine ⟨fun j hj => hge x (by simp) j hj, nx.1.1, nx.1.2, nx.2, fun y hy j hj => ⟨hge y (by
    rcases List.mem_append.1 hy with h | h
    · simp [h]
    · simp [h]) j hj, fun hx => ?_⟩⟩
  rcases List.mem_append.1 hy with hy | hy
  · exact d1 j (List.mem_flatMap.2 ⟨y, hy, hj⟩) j (List.mem_append.2 (.inl hx)) rfl
  · exact d2 j hx j (List.mem_flatMap.2 ⟨y, hy, hj⟩) rfl
theorem ents_keys (cs : List Ch) : keysOk (entsOf cs) := fun e he => by
  obtain ⟨x, _, rfl⟩ := List.mem_map.1 he
  exact ⟨x.s, x.c, rfl⟩
theorem hide_keys (β : Nat → Nat) (cs : List Ch) : keysOk (hideE β (entsOf cs)) := fun e he => by
  obtain ⟨e0, h0, rfl⟩ := List.mem_map.1 he
  exact ents_keys cs e0 h0
def noCh (s c : ByteArray) (cs : List Ch) : Prop := ∀ x ∈ cs, ¬ (x.s = s ∧ x.c = c)
theorem afind_none (β : Nat → Nat) (s c : ByteArray) : ∀ (cs : List Ch), noCh s c cs → afind (ky s c) (hideE β (entsOf cs)) = none
  | [], _ => rfl
  | x :: cs, h => by
    show (if keq (ky s c) (ky x.s x.c) = true then _ else afind (ky s c) (hideE β (entsOf cs))) = none
    have hx := h x (by simp)
    rw [keq_ky, if_neg, afind_none β s c cs fun y hy => h y (by simp [hy])]
    intro he
    simp only [Bool.and_eq_true, decide_eq_true_eq] at he
    exact hx ⟨he.1.symm, he.2.symm⟩
theorem hide_app (β : Nat → Nat) (a b : Ents) : hideE β (a ++ b) = hideE β a ++ hideE β b := by simp [hideE]
theorem lift6 {f : FuncId} {rest : List AVal} {T : AState} {cs1 cs2 : List Ch} {x : Ch} {offs : List ByteArray} (hM : MT T (cs1 ++ [x] ++ cs2) offs) {v : AVal} (hrest : idsInL [] rest = true) (hv : idsIn [] v = true)
    {o0 o2 o3 o4 o5 : AObj} {news : AState} {own : Ents} {cP cQ : List Ch} (hPQ : ∀ y ∈ cP ++ cQ, y ∈ cs1 ++ cs2)
    (h : ∀ β : Nat → Nat, FOk Tryd.prog f (.ptr 0 2 0 0 :: rest) (H6 (hideE β (entsOf cs1)) (hideE β (entsOf cs2)) x.s x.c (gms offs) (gms x.us) x.b x.ps) v (o0 :: .mq (hideE β (entsOf cP)) own (hideE β (entsOf cQ)) :: o2 :: o3 :: o4 :: o5 :: news)) :
    FOk Tryd.prog f (.ptr 0 2 0 0 :: rest) T v ((plug T [0, 1, 2, x.p, x.q, x.r] (o0 :: .dead :: o2 :: o3 :: o4 :: o5 :: news)).set 1 (.mp false (entsOf cP ++ own.map (fun e => (ren (emb [0, 1, 2, x.p, x.q, x.r] T.length) e.1, ren (emb [0, 1, 2, x.p, x.q, x.r] T.length) e.2)) ++ entsOf cQ))) := by
  obtain ⟨hlen, hlt⟩ := hM.lt
  obtain ⟨hx1, hx2, hx3⟩ := hlt x (by simp)
  obtain ⟨hge, npq, npr, nqr, hoth⟩ := hM.one
  have gp := hge x.p (by simp [Ch.pl]); have gq := hge x.q (by simp [Ch.pl]); have gr := hge x.r (by simp [Ch.pl])
  have hnd : Go.Abs.nodupB [0, 1, 2, x.p, x.q, x.r] = true := by
    simp [Go.Abs.nodupB]; omega
  have hltT : ∀ j ∈ [0, 1, 2, x.p, x.q, x.r], j < T.length := fun j hj => by
    simp at hj; omega
  have hents : entsOf (cs1 ++ [x] ++ cs2) = entsOf cs1 ++ [x.ent] ++ entsOf cs2 := by simp [entsOf]
  refine FOk.unmq 1 (pre := entsOf cs1) (own := [x.ent]) (post := entsOf cs2) (pre' := entsOf cP) (own' := own.map (fun e => (ren (emb [0, 1, 2, x.p, x.q, x.r] T.length) e.1, ren (emb [0, 1, 2, x.p, x.q, x.r] T.length) e.2))) (post' := entsOf cQ) (by rw [← hents]; exact hM.h1) ?_ ?_ ?_ fun β => ?_
  · rw [List.getElem?_set, if_pos rfl, if_pos]
    rw [plug_len hnd hltT (by simp)]; omega
  · intro e he
    have : e ∈ entsOf (cs1 ++ cs2) := by simpa [entsOf] using he
    obtain ⟨y, _, rfl⟩ := List.mem_map.1 this
    exact ⟨rfl, rfl⟩
  · intro e he
    have : e ∈ entsOf (cP ++ cQ) := by simpa [entsOf] using he
    obtain ⟨y, hy, rfl⟩ := List.mem_map.1 this
    have hy2 := hPQ y hy
    refine ⟨y.ent, ?_, rfl⟩
    rw [← hents]
    refine List.mem_map.2 ⟨y, ?_, rfl⟩
    rcases List.mem_append.1 hy2 with h | h <;> simp [h]
  · have hS : (T.set 1 (.mq (hideE β (entsOf cs1)) [x.ent] (hideE β (entsOf cs2)))).length = T.length := by simp
    have hget : ∀ j, j ≠ 1 → (T.set 1 (.mq (hideE β (entsOf cs1)) [x.ent] (hideE β (entsOf cs2))))[j]? = T[j]? := fun j hj => by rw [List.getElem?_set_ne (fun e => hj e.symm)]
    have hu : UseOk Tryd.prog f [0, 1, 2, x.p, x.q, x.r] (renL (emb [0, 1, 2, x.p, x.q, x.r] T.length) (.ptr 0 2 0 0 :: rest)) (T.set 1 (.mq (hideE β (entsOf cs1)) [x.ent] (hideE β (entsOf cs2)))) (.ptr 0 2 0 0 :: rest) (H6 (hideE β (entsOf cs1)) (hideE β (entsOf cs2)) x.s x.c (gms offs) (gms x.us) x.b x.ps) v
        (o0 :: .mq (hideE β (entsOf cP)) own (hideE β (entsOf cQ)) :: o2 :: o3 :: o4 :: o5 :: news) := by
      refine ⟨h β, by rw [hS], ?_, ?_⟩
      · rw [hS]
        simp only [List.map_cons, List.map_nil]
        rw [hget 0 (by omega), hget 2 (by omega), hget x.p (by omega), hget x.q (by omega), hget x.r (by omega), List.getElem?_set_self (by omega), hM.h0, hM.h2, hM.hp x (by simp), hM.hq x (by simp), hM.hr x (by simp)]
        rfl
      · unfold okEmb
        rw [hnd]
        have hsc : inScopeL 6 (AVal.ptr 0 2 0 0 :: rest) = true := by
          simp only [inScopeL, Bool.and_eq_true]; exact ⟨rfl, scopeL_closed rest hrest⟩
        have e1 : (List.all [0, 1, 2, x.p, x.q, x.r] fun j => decide (j < (T.set 1 (.mq (hideE β (entsOf cs1)) [x.ent] (hideE β (entsOf cs2)))).length)) = true := by
          rw [hS, List.all_eq_true]; intro j hj; exact decide_eq_true (hltT j hj)
        rw [e1]
        show (true && true && inScopeL 6 (AVal.ptr 0 2 0 0 :: rest) && _ && _) = true
        rw [hsc]
        simp [inScopeO, inScopeL, inScope]
    have hf := hu.fok'
    rw [hS] at hf
    have ha : renL (emb [0, 1, 2, x.p, x.q, x.r] T.length) (AVal.ptr 0 2 0 0 :: rest) = AVal.ptr 0 2 0 0 :: rest := by
      simp only [renL]; rw [renL_closed rest hrest]; rfl
    rw [ha, ren_closed v hv] at hf
    rw [List.set_set]
    have hpl := plug_at (S := T.set 1 (.mq (hideE β (entsOf cs1)) [x.ent] (hideE β (entsOf cs2)))) (S2 := T) (es := [0, 1, 2, x.p, x.q, x.r]) (σ1 := o0 :: .mq (hideE β (entsOf cP)) own (hideE β (entsOf cQ)) :: o2 :: o3 :: o4 :: o5 :: news) (σ2 := o0 :: .dead :: o2 :: o3 :: o4 :: o5 :: news) (i0 := 1) (a := 1) hnd (by rw [hS]; exact hltT) (by simp) rfl hS.symm rfl rfl hget (fun i hi => by
      match i with
      | 0 => rfl
      | 1 => exact absurd rfl hi
      | i + 2 => rfl)
    rw [hS] at hpl
    rw [hpl] at hf
    exact hf
end Go.MN
end

section
set_option linter.unusedVariables false
set_option linter.unusedSimpArgs false
set_option maxRecDepth 100000
namespace Go.MN
open Go Go.Abs Go.Proofs
def putT (T : AState) (x : Ch) (o0 o2 o3 o4 o5 : AObj) (news : AState) (ents : Ents) : AState := (plug T [0, 1, 2, x.p, x.q, x.r] (o0 :: .dead :: o2 :: o3 :: o4 :: o5 :: news)).set 1 (.mp false ents)
theorem putT_get {T : AState} {cs1 cs2 : List Ch} {x : Ch} {offs : List ByteArray} (hM : MT T (cs1 ++ [x] ++ cs2) offs) (o0 o2 o3 o4 o5 : AObj) (news : AState) (ents : Ents) :
    (putT T x o0 o2 o3 o4 o5 news ents)[0]? = some (renO (emb [0, 1, 2, x.p, x.q, x.r] T.length) o0) ∧ (putT T x o0 o2 o3 o4 o5 news ents)[1]? = some (.mp false ents) ∧ (putT T x o0 o2 o3 o4 o5 news ents)[2]? = some (renO (emb [0, 1, 2, x.p, x.q, x.r] T.length) o2) ∧
    (putT T x o0 o2 o3 o4 o5 news ents)[x.p]? = some (renO (emb [0, 1, 2, x.p, x.q, x.r] T.length) o3) ∧ (putT T x o0 o2 o3 o4 o5 news ents)[x.q]? = some (renO (emb [0, 1, 2, x.p, x.q, x.r] T.length) o4) ∧ (putT T x o0 o2 o3 o4 o5 news ents)[x.r]? = some (renO (emb [0, 1, 2, x.p, x.q, x.r] T.length) o5) ∧
    (∀ j, j < T.length → 3 ≤ j → j ∉ x.pl → (putT T x o0 o2 o3 o4 o5 news ents)[j]? = T[j]?) ∧ (∀ i, (putT T x o0 o2 o3 o4 o5 news ents)[T.length + i]? = (news[i]?).map (renO (emb [0, 1, 2, x.p, x.q, x.r] T.length))) := by
  obtain ⟨hlen, hlt⟩ := hM.lt
  obtain ⟨hx1, hx2, hx3⟩ := hlt x (by simp)
  obtain ⟨hge, npq, npr, nqr, hoth⟩ := hM.one
  have gp := hge x.p (by simp [Ch.pl]); have gq := hge x.q (by simp [Ch.pl]); have gr := hge x.r (by simp [Ch.pl])
  have hnd : Go.Abs.nodupB [0, 1, 2, x.p, x.q, x.r] = true := by
    simp [Go.Abs.nodupB]; omega
  have hltT : ∀ j ∈ [0, 1, 2, x.p, x.q, x.r], j < T.length := fun j hj => by
    simp at hj; omega
  have hl6 : [0, 1, 2, x.p, x.q, x.r].length ≤ (o0 :: AObj.dead :: o2 :: o3 :: o4 :: o5 :: news).length := by simp
  have hne : ∀ j, j ≠ 1 → (putT T x o0 o2 o3 o4 o5 news ents)[j]? = (plug T [0, 1, 2, x.p, x.q, x.r] (o0 :: .dead :: o2 :: o3 :: o4 :: o5 :: news))[j]? := fun j hj => by
    unfold putT; rw [List.getElem?_set_ne (fun e => hj e.symm)]
  refine ⟨?_, ?_, ?_, ?_, ?_, ?_, fun j h1 h2 h3 => ?_, fun i => ?_⟩
  · rw [hne 0 (by omega)]; exact plug_in hnd hltT hl6 (i := 0) rfl rfl
  · unfold putT
    rw [List.getElem?_set, if_pos rfl, if_pos]
    rw [plug_len hnd hltT hl6]; omega
  · rw [hne 2 (by omega)]; exact plug_in hnd hltT hl6 (i := 2) rfl rfl
  · rw [hne x.p (by omega)]; exact plug_in hnd hltT hl6 (i := 3) rfl rfl
  · rw [hne x.q (by omega)]; exact plug_in hnd hltT hl6 (i := 4) rfl rfl
  · rw [hne x.r (by omega)]; exact plug_in hnd hltT hl6 (i := 5) rfl rfl
  · rw [hne j (by omega)]
    refine plug_out hnd hltT hl6 h1 ?_
    simp [Ch.pl] at h3 ⊢
    omega
  · rw [hne _ (by omega), plug_new hnd hltT hl6 i]
    show Option.map _ ([o0, .dead, o2, o3, o4, o5] ++ news)[6 + i]? = _
    rw [List.getElem?_append_right (by simp)]
    simp
theorem putT_len {T : AState} {cs1 cs2 : List Ch} {x : Ch} {offs : List ByteArray} (hM : MT T (cs1 ++ [x] ++ cs2) offs) (o0 o2 o3 o4 o5 : AObj) (news : AState) (ents : Ents) : (putT T x o0 o2 o3 o4 o5 news ents).length = T.length + news.length := by
  obtain ⟨hlen, hlt⟩ := hM.lt
  obtain ⟨hx1, hx2, hx3⟩ := hlt x (by simp)
  obtain ⟨hge, npq, npr, nqr, hoth⟩ := hM.one
  have gp := hge x.p (by simp [Ch.pl]); have gq := hge x.q (by simp [Ch.pl]); have gr := hge x.r (by simp [Ch.pl])
  unfold putT
  rw [List.length_set, plug_len (by simp [Go.Abs.nodupB]; omega) (fun j hj => by simp at hj; omega) (by simp)]
  simp
theorem putT_gh {T : AState} {cs1 cs2 : List Ch} {x : Ch} {offs : List ByteArray} (hM : MT T (cs1 ++ [x] ++ cs2) offs) {o0 o2 o3 o4 o5 : AObj} {news : AState} (ents : Ents) (h : noGh (o0 :: o2 :: o3 :: o4 :: o5 :: news) = true) : noGh (putT T x o0 o2 o3 o4 o5 news ents) = true := by
  obtain ⟨g0, g1, g2, g3, g4, g5, g6, g7⟩ := putT_get hM o0 o2 o3 o4 o5 news ents
  have hl := putT_len hM o0 o2 o3 o4 o5 news ents
  have hm : ∀ o ∈ o0 :: o2 :: o3 :: o4 :: o5 :: news, o.isGh = false := fun o ho => by
    have := List.all_eq_true.1 h o ho
    simpa using this
  unfold noGh
  rw [List.all_eq_true]
  intro o ho
  obtain ⟨j, hj⟩ := List.getElem?_of_mem ho
  have hjl := (List.getElem?_eq_some_iff.1 hj).1
  have key : o.isGh = false := by
    rcases Nat.lt_or_ge j T.length with hjT | hjT
    · by_cases e0 : j = 0
      · subst e0; rw [g0] at hj; cases hj; rw [renO_isGh]; exact hm _ (by simp)
      by_cases e1 : j = 1
      · subst e1; rw [g1] at hj; cases hj; rfl
      by_cases e2 : j = 2
      · subst e2; rw [g2] at hj; cases hj; rw [renO_isGh]; exact hm _ (by simp)
      by_cases e3 : j = x.p
      · subst e3; rw [g3] at hj; cases hj; rw [renO_isGh]; exact hm _ (by simp)
      by_cases e4 : j = x.q
      · subst e4; rw [g4] at hj; cases hj; rw [renO_isGh]; exact hm _ (by simp)
      by_cases e5 : j = x.r
      · subst e5; rw [g5] at hj; cases hj; rw [renO_isGh]; exact hm _ (by simp)
      rw [g6 j hjT (by omega) (by simp [Ch.pl]; exact ⟨e3, e4, e5⟩)] at hj
      exact noGh_get hM.ng hj
    · obtain ⟨i, rfl⟩ : ∃ i, j = T.length + i := ⟨j - T.length, by omega⟩
      rw [g7 i, Option.map_eq_some_iff] at hj
      obtain ⟨o', h1, rfl⟩ := hj
      rw [renO_isGh]; exact hm _ (by simp [List.mem_of_getElem? h1])
  rw [key]; rfl
theorem MT.put {T : AState} {cs1 cs2 : List Ch} {x : Ch} {offs : List ByteArray} (hM : MT T (cs1 ++ [x] ++ cs2) offs) (x' : Ch) (cP cQ : List Ch) (hPQ : ∀ y ∈ cP ++ cQ, y ∈ cs1 ++ cs2) (offs' : List ByteArray) (news : AState) (k : Nat) (o5 : AObj) (hp : x'.p = x.p) (hq : x'.q = x.q)
    (hr : (x'.r = x.r ∧ k = 5 ∧ o5 = .rows true 2 x'.ps ∧ news = []) ∨ (x'.r = T.length ∧ k = 6 ∧ o5 = .dead ∧ news = [.rows true 2 x'.ps]))
    (hnd : (List.range 3 ++ (cP ++ [x'] ++ cQ).flatMap Ch.pl).Nodup) :
    MT (putT T x (.rows false 2 [[.map 1, .map 2]]) (.mp true (gms offs')) (.rows false 2 [[.map 4, .slc x'.b k 2 0 x'.ps.length none]]) (.mp true (gms x'.us)) o5 news (entsOf (cP ++ [x'] ++ cQ))) (cP ++ [x'] ++ cQ) offs' := by
  obtain ⟨g0, g1, g2, g3, g4, g5, g6, g7⟩ := putT_get hM (.rows false 2 [[.map 1, .map 2]]) (.mp true (gms offs')) (.rows false 2 [[.map 4, .slc x'.b k 2 0 x'.ps.length none]]) (.mp true (gms x'.us)) o5 news (entsOf (cP ++ [x'] ++ cQ))
  obtain ⟨_, hlt⟩ := hM.lt
  obtain ⟨hge, npq, npr, nqr, hoth⟩ := hM.one
  have hcase : ∀ y ∈ cP ++ [x'] ++ cQ, y = x' ∨ y ∈ cs1 ++ cs2 := fun y hy => by
    simp only [List.mem_append, List.mem_singleton] at hy
    rcases hy with (hy | hy) | hy
    · exact .inr (hPQ y (by simp [hy]))
    · exact .inl hy
    · exact .inr (hPQ y (by simp [hy]))
  have hold : ∀ y ∈ cs1 ++ cs2, y ∈ cs1 ++ [x] ++ cs2 := fun y hy => by
    rcases List.mem_append.1 hy with h | h <;> simp [h]
  have hsame : ∀ y ∈ cs1 ++ cs2, ∀ j ∈ y.pl, (putT T x (.rows false 2 [[.map 1, .map 2]]) (.mp true (gms offs')) (.rows false 2 [[.map 4, .slc x'.b k 2 0 x'.ps.length none]]) (.mp true (gms x'.us)) o5 news (entsOf (cP ++ [x'] ++ cQ)))[j]? = T[j]? := fun y hy j hj => by
    obtain ⟨h1, h2⟩ := hoth y hy j hj
    obtain ⟨a, b, c⟩ := hlt y (hold y hy)
    refine g6 j ?_ h1 h2
    simp [Ch.pl] at hj; omega
  refine ⟨by rw [g0]; rfl, by rw [g1], by rw [g2]; rfl, fun y hy => ?_, fun y hy => ?_, fun y hy => ?_, hnd, ?_⟩
  · rcases hcase y hy with rfl | hy
    · rw [hp, hq, g3]
      rcases hr with ⟨e, rfl, _⟩ | ⟨e, rfl, _⟩
      · rw [e]; rfl
      · rw [e]
        show some (AObj.rows false 2 [[.map x.q, .slc y.b (emb [0, 1, 2, x.p, x.q, x.r] T.length 6) 2 0 y.ps.length none]]) = _
        rfl
    · rw [hsame y hy y.p (by simp [Ch.pl])]; exact hM.hp y (hold y hy)
  · rcases hcase y hy with rfl | hy
    · rw [hq, g4]; rfl
    · rw [hsame y hy y.q (by simp [Ch.pl])]; exact hM.hq y (hold y hy)
  · rcases hcase y hy with rfl | hy
    · rcases hr with ⟨e, _, rfl, _⟩ | ⟨e, _, _, rfl⟩
      · rw [e, g5]; rfl
      · rw [e, show T.length = T.length + 0 from rfl, g7 0]; rfl
    · rw [hsame y hy y.r (by simp [Ch.pl])]; exact hM.hr y (hold y hy)
  · refine putT_gh hM _ ?_
    rcases hr with ⟨_, _, rfl, rfl⟩ | ⟨_, _, rfl, rfl⟩ <;> rfl
end Go.MN
end

section
set_option linter.unusedVariables false
set_option linter.unusedSimpArgs false
set_option maxRecDepth 100000
namespace Go.MN
open Go Go.Abs Go.Proofs
abbrev ent0 (e : Nat → Nat) (own : Ents) : Ents := own.map fun p => (ren e p.1, ren e p.2)
theorem lift3 {f : FuncId} {rest : List AVal} {T : AState} {cs : List Ch} {offs : List ByteArray} (hM : MT T cs offs) {v : AVal} (hrest : idsInL [] rest = true) (hv : idsIn [] v = true) {o0 o2 : AObj} {news : AState} {own : Ents}
    (h : ∀ β : Nat → Nat, FOk Tryd.prog f (.ptr 0 2 0 0 :: rest) (H3 (hideE β (entsOf cs)) (gms offs)) v (o0 :: .mq (hideE β (entsOf cs)) own [] :: o2 :: news)) :
    FOk Tryd.prog f (.ptr 0 2 0 0 :: rest) T v ((plug T [0, 1, 2] (o0 :: .dead :: o2 :: news)).set 1 (.mp false (entsOf cs ++ ent0 (emb [0, 1, 2] T.length) own))) := by
  obtain ⟨hlen, hlt⟩ := hM.lt
  have hltT : ∀ j ∈ [0, 1, 2], j < T.length := fun j hj => by simp at hj; omega
  have hT' : entsOf cs ++ ent0 (emb [0, 1, 2] T.length) own = entsOf cs ++ ent0 (emb [0, 1, 2] T.length) own ++ [] := by simp
  rw [hT']
  refine FOk.unmq 1 (pre := entsOf cs) (own := []) (post := []) (pre' := entsOf cs) (own' := ent0 (emb [0, 1, 2] T.length) own) (post' := []) (by rw [List.append_nil, List.append_nil]; exact hM.h1) ?_ ?_ ?_ fun β => ?_
  · rw [List.getElem?_set, if_pos rfl, if_pos]
    rw [plug_len rfl hltT (by simp)]; omega
  · intro e he
    rw [List.append_nil] at he
    obtain ⟨y, _, rfl⟩ := List.mem_map.1 he
    exact ⟨rfl, rfl⟩
  · intro e he
    exact ⟨e, by simpa using he, rfl⟩
  · have hS : (T.set 1 (.mq (hideE β (entsOf cs)) [] (hideE β []))).length = T.length := by simp
    have hget : ∀ j, j ≠ 1 → (T.set 1 (.mq (hideE β (entsOf cs)) [] (hideE β [])))[j]? = T[j]? := fun j hj => by rw [List.getElem?_set_ne (fun e => hj e.symm)]
    have hu : UseOk Tryd.prog f [0, 1, 2] (renL (emb [0, 1, 2] T.length) (.ptr 0 2 0 0 :: rest)) (T.set 1 (.mq (hideE β (entsOf cs)) [] (hideE β []))) (.ptr 0 2 0 0 :: rest) (H3 (hideE β (entsOf cs)) (gms offs)) v (o0 :: .mq (hideE β (entsOf cs)) own [] :: o2 :: news) := by
      refine ⟨h β, by rw [hS], ?_, ?_⟩
      · rw [hS]
        simp only [List.map_cons, List.map_nil]
        rw [hget 0 (by omega), hget 2 (by omega), List.getElem?_set_self (by omega), hM.h0, hM.h2]
        rfl
      · unfold okEmb
        have hsc : inScopeL 3 (AVal.ptr 0 2 0 0 :: rest) = true := by
          simp only [inScopeL, Bool.and_eq_true]; exact ⟨rfl, scopeL_closed rest hrest⟩
        have e1 : (List.all [0, 1, 2] fun j => decide (j < (T.set 1 (.mq (hideE β (entsOf cs)) [] (hideE β []))).length)) = true := by
          rw [hS, List.all_eq_true]; intro j hj; exact decide_eq_true (hltT j hj)
        rw [e1]
        show (true && true && inScopeL 3 (AVal.ptr 0 2 0 0 :: rest) && _ && _) = true
        rw [hsc]
        simp [inScopeO, inScopeL, inScope]
    have hf := hu.fok'
    rw [hS] at hf
    have ha : renL (emb [0, 1, 2] T.length) (AVal.ptr 0 2 0 0 :: rest) = AVal.ptr 0 2 0 0 :: rest := by
      simp only [renL]; rw [renL_closed rest hrest]; rfl
    rw [ha, ren_closed v hv] at hf
    rw [List.set_set]
    have hpl := plug_at (S := T.set 1 (.mq (hideE β (entsOf cs)) [] (hideE β []))) (S2 := T) (es := [0, 1, 2]) (σ1 := o0 :: .mq (hideE β (entsOf cs)) own [] :: o2 :: news) (σ2 := o0 :: .dead :: o2 :: news) (i0 := 1) (a := 1) rfl (by rw [hS]; exact hltT) (by simp) rfl hS.symm rfl rfl hget (fun i hi => by
      match i with
      | 0 => rfl
      | 1 => exact absurd rfl hi
      | i + 2 => rfl)
    rw [hS] at hpl
    rw [hpl] at hf
    exact hf
def putT3 (T : AState) (o0 o2 : AObj) (news : AState) (ents : Ents) : AState := (plug T [0, 1, 2] (o0 :: .dead :: o2 :: news)).set 1 (.mp false ents)
theorem putT3_get {T : AState} {cs : List Ch} {offs : List ByteArray} (hM : MT T cs offs) (o0 o2 : AObj) (news : AState) (ents : Ents) :
    (putT3 T o0 o2 news ents)[0]? = some (renO (emb [0, 1, 2] T.length) o0) ∧ (putT3 T o0 o2 news ents)[1]? = some (.mp false ents) ∧ (putT3 T o0 o2 news ents)[2]? = some (renO (emb [0, 1, 2] T.length) o2) ∧
    (∀ j, j < T.length → 3 ≤ j → (putT3 T o0 o2 news ents)[j]? = T[j]?) ∧ (∀ i, (putT3 T o0 o2 news ents)[T.length + i]? = (news[i]?).map (renO (emb [0, 1, 2] T.length))) := by
  obtain ⟨hlen, hlt⟩ := hM.lt
  have hltT : ∀ j ∈ [0, 1, 2], j < T.length := fun j hj => by simp at hj; omega
  have hl6 : [0, 1, 2].length ≤ (o0 :: AObj.dead :: o2 :: news).length := by simp
  have hne : ∀ j, j ≠ 1 → (putT3 T o0 o2 news ents)[j]? = (plug T [0, 1, 2] (o0 :: .dead :: o2 :: news))[j]? := fun j hj => by
    unfold putT3; rw [List.getElem?_set_ne (fun e => hj e.symm)]
  refine ⟨?_, ?_, ?_, fun j h1 h2 => ?_, fun i => ?_⟩
  · rw [hne 0 (by omega)]; exact plug_in rfl hltT hl6 (i := 0) rfl rfl
  · unfold putT3
    rw [List.getElem?_set, if_pos rfl, if_pos]
    rw [plug_len rfl hltT hl6]; omega
  · rw [hne 2 (by omega)]; exact plug_in rfl hltT hl6 (i := 2) rfl rfl
  · rw [hne j (by omega)]
    refine plug_out rfl hltT hl6 h1 ?_
    simp; omega
  · rw [hne _ (by omega), plug_new rfl hltT hl6 i]
    show Option.map _ ([o0, .dead, o2] ++ news)[3 + i]? = _
    rw [List.getElem?_append_right (by simp)]
    simp
theorem putT3_gh {T : AState} {cs : List Ch} {offs : List ByteArray} (hM : MT T cs offs) {o0 o2 : AObj} {news : AState} (ents : Ents) (h : noGh (o0 :: o2 :: news) = true) : noGh (putT3 T o0 o2 news ents) = true := by
  obtain ⟨g0, g1, g2, g6, g7⟩ := putT3_get hM o0 o2 news ents
  have hm : ∀ o ∈ o0 :: o2 :: news, o.isGh = false := fun o ho => by
    have := List.all_eq_true.1 h o ho
    simpa using this
  unfold noGh
  rw [List.all_eq_true]
  intro o ho
  obtain ⟨j, hj⟩ := List.getElem?_of_mem ho
  have key : o.isGh = false := by
    rcases Nat.lt_or_ge j T.length with hjT | hjT
    · by_cases e0 : j = 0
      · subst e0; rw [g0] at hj; cases hj; rw [renO_isGh]; exact hm _ (by simp)
      by_cases e1 : j = 1
      · subst e1; rw [g1] at hj; cases hj; rfl
      by_cases e2 : j = 2
      · subst e2; rw [g2] at hj; cases hj; rw [renO_isGh]; exact hm _ (by simp)
      rw [g6 j hjT (by omega)] at hj
      exact noGh_get hM.ng hj
    · obtain ⟨i, rfl⟩ : ∃ i, j = T.length + i := ⟨j - T.length, by omega⟩
      rw [g7 i, Option.map_eq_some_iff] at hj
      obtain ⟨o', h1, rfl⟩ := hj
      rw [renO_isGh]; exact hm _ (by simp [List.mem_of_getElem? h1])
  rw [key]; rfl
theorem MT.make {T : AState} {cs : List Ch} {offs : List ByteArray} (hM : MT T cs offs) (s c : ByteArray) :
    MT (putT3 T (.rows false 2 [[.map 1, .map 2]]) (.mp true (gms offs)) [.rows false 2 [[.map 4, .slc true 5 2 0 0 none]], .mp true (gms []), .rows true 2 []] (entsOf (cs ++ [⟨s, c, [], [], true, T.length, T.length + 1, T.length + 2⟩]))) (cs ++ [⟨s, c, [], [], true, T.length, T.length + 1, T.length + 2⟩]) offs := by
  obtain ⟨g0, g1, g2, g6, g7⟩ := putT3_get hM (.rows false 2 [[.map 1, .map 2]]) (.mp true (gms offs)) [.rows false 2 [[.map 4, .slc true 5 2 0 0 none]], .mp true (gms []), .rows true 2 []] (entsOf (cs ++ [⟨s, c, [], [], true, T.length, T.length + 1, T.length + 2⟩]))
  obtain ⟨hlen, hlt⟩ := hM.lt
  have hge : ∀ y ∈ cs, ∀ j ∈ y.pl, 3 ≤ j ∧ j < T.length := fun y hy j hj => by
    have hn := hM.nd
    rw [List.nodup_append] at hn
    obtain ⟨a, b, c⟩ := hlt y hy
    refine ⟨?_, by simp [Ch.pl] at hj; omega⟩
    rcases Nat.lt_or_ge j 3 with h | h
    · exact absurd rfl (hn.2.2 j (by simpa using h) j (List.mem_flatMap.2 ⟨y, hy, hj⟩))
    · exact h
  refine ⟨by rw [g0]; rfl, by rw [g1], by rw [g2]; rfl, fun y hy => ?_, fun y hy => ?_, fun y hy => ?_, ?_, putT3_gh hM _ rfl⟩
  · rcases List.mem_append.1 hy with hy | hy
    · have := hge y hy y.p (by simp [Ch.pl])
      rw [g6 y.p this.2 this.1]; exact hM.hp y hy
    · simp at hy; subst hy
      show (putT3 T _ _ _ _)[T.length + 0]? = _
      rw [g7 0]
      show some (AObj.rows false 2 [[.map (emb [0, 1, 2] T.length 4), .slc true (emb [0, 1, 2] T.length 5) 2 0 0 none]]) = _
      rfl
  · rcases List.mem_append.1 hy with hy | hy
    · have := hge y hy y.q (by simp [Ch.pl])
      rw [g6 y.q this.2 this.1]; exact hM.hq y hy
    · simp at hy; subst hy
      show (putT3 T _ _ _ _)[T.length + 1]? = _
      rw [g7 1]; rfl
  · rcases List.mem_append.1 hy with hy | hy
    · have := hge y hy y.r (by simp [Ch.pl])
      rw [g6 y.r this.2 this.1]; exact hM.hr y hy
    · simp at hy; subst hy
      show (putT3 T _ _ _ _)[T.length + 2]? = _
      rw [g7 2]; rfl
  · rw [List.flatMap_append, List.flatMap_singleton, ← List.append_assoc, List.nodup_append]
    refine ⟨hM.nd, by simp [Ch.pl], fun a ha b hb => ?_⟩
    have h1 : a < T.length := by
      rcases List.mem_append.1 ha with h | h
      · simp at h; omega
      · obtain ⟨y, hy, hj⟩ := List.mem_flatMap.1 h
        exact (hge y hy a hj).2
    simp [Ch.pl] at hb
    omega
end Go.MN
end

section
set_option linter.unusedVariables false
set_option linter.unusedSimpArgs false
set_option maxRecDepth 100000
namespace Go.MN
open Go Go.Abs Go.Proofs
theorem wP_no (pre post : Ents) (s c u x : ByteArray) (offs us : List ByteArray) (b : Bool) (ps : List (List AVal)) (h : u ∉ offs) (h2 : u ∉ us) : FOk Tryd.prog 31 [.ptr 0 2 0 0, ky s c, .ptr 1 2 0 0, opw 3 s c u x w0 w0 0 0] (W6 pre post s c (gms offs) (gms us) b ps) (rep 91 0 nilps) (W6 pre post s c (gms offs) (gms us) b ps) := by
  refine FOk.wp (wP_wp pre post s c u x (gms offs) (gms us) b ps false false ?_)
  unfold wP_T
  rw [getD_gm, getD_gm, decide_eq_false h, decide_eq_false h2]
  exact ⟨kk9s _, ok4 _, by rw [if_neg (by simp)]; exact as4 false, (fun h => by cases h), fun _ => ⟨kk9s _, ok4 _, by rw [if_neg (by simp)]; exact as4 false, (fun _ => ⟨rfl, rfl⟩), fun h => by cases h⟩⟩
theorem wP_full (pre post : Ents) (s c u x : ByteArray) (offs us : List ByteArray) (b : Bool) (ps : List (List AVal)) (h : u ∉ offs) (h2 : u ∈ us) (hp : 1024 ≤ ps.length) : FOk Tryd.prog 31 [.ptr 0 2 0 0, ky s c, .ptr 1 2 0 0, opw 3 s c u x w0 w0 0 0] (W6 pre post s c (gms offs) (gms us) b ps) (rep 2 0 nilps) (W6 pre post s c (gms offs) (gms us) b ps) := by
  refine FOk.wp (wP_wp pre post s c u x (gms offs) (gms us) b ps false true ?_)
  unfold wP_T
  rw [getD_gm, getD_gm, decide_eq_false h, decide_eq_true h2]
  exact ⟨kk9s _, ok4 _, by rw [if_neg (by simp)]; exact as4 false, (fun h => by cases h), fun _ => ⟨kk9s _, ok4 _, by rw [if_neg (by simp)]; exact as4 true, (fun h => by cases h), fun _ => ⟨fun _ => ⟨rfl, rfl⟩, fun h => absurd (of_decide_eq_false h) (by omega)⟩⟩⟩
def isPost (r : List AVal) : Prop := ∃ u x, r = [.str u, .str x]
theorem cl_ok (b : Bool) (ps : List (List AVal)) (hb : b = true → ps = []) (hps : ∀ r ∈ ps, isPost r) (hl : ps.length ≤ 1024) (o n : Nat) (ho : o + n ≤ ps.length) :
    FOk Tryd.prog 45 [.slc b 0 2 o n none] [.rows true 2 ps] (.fsl b 2 ((ps.drop o).take n) none) [.rows true 2 ps] := by
  cases b with
  | true =>
    have := hb rfl; subst this
    refine FOk.wp (clE_wp o n [] ?_)
    exact ⟨by simp, rfl⟩
  | false =>
    have hlen : ((ps.drop o).take n).length = n := by rw [List.length_take, List.length_drop]; omega
    have h : FOk Tryd.prog 45 [.slc false 0 2 o n none] [.rows true 2 ps] (.slc false 1 2 0 n none) [.rows true 2 ps, .rows true 2 ((ps.drop o).take n)] := by
      refine FOk.wp (cl_wp o n ps ?_)
      unfold cl_T
      rw [hlen]
      refine ⟨?_, decide_eq_true ho, decide_eq_true (by omega), by rw [Nat.zero_add], rfl⟩
      rw [List.all_eq_true]
      intro r hr
      obtain ⟨u, x, rfl⟩ := hps r (List.mem_of_mem_drop (List.mem_of_mem_take hr))
      rfl
    have h1 : FOk Tryd.prog 45 [.slc false 0 2 o n none] [.rows true 2 ps] (.slc false 1 2 0 ((ps.drop o).take n).length none) [.rows true 2 ps, .rows true 2 ((ps.drop o).take n)] := by rw [hlen]; exact h
    exact FOk.fsl (σ2 := [.rows true 2 ps]) h1 rfl rfl rfl
def rdA (ps : List (List AVal)) (f : Int) : Nat := min f.toNat ps.length
def rdK (ps : List (List AVal)) (f m : Int) : Nat := min m.toNat (ps.length - rdA ps f)
def rdR (b : Bool) (ps : List (List AVal)) (f m : Int) : AVal := rep 0 ((rdA ps f + rdK ps f m : Nat) : Int) (.fsl b 2 ((ps.drop (rdA ps f)).take (rdK ps f m)) none)
theorem wR_ok (pre post : Ents) (s c : ByteArray) (f m : Int) (off mem : Ents) (b : Bool) (ps : List (List AVal)) (hb : b = true → ps = []) (hps : ∀ r ∈ ps, isPost r) (hl : ps.length ≤ 1024) (hf : 0 ≤ f) (hf2 : f ≤ 2147483647) (hm : 0 ≤ m) (hm2 : m ≤ 64) :
    FOk Tryd.prog 31 [.ptr 0 2 0 0, ky s c, .ptr 1 2 0 0, opw 4 s c w0 w0 w0 w0 f m] (W6 pre post s c off mem b ps) (rdR b ps f m) (W6 pre post s c off mem b ps) := by
  have e1 : imin f (ps.length : Int) = (rdA ps f : Int) := by unfold imin rdA; split <;> omega
  have e2 : IntKind.wrap .i64 ((rdA ps f : Int) + m) = (rdA ps f : Int) + m := wrapS (by unfold rdA; omega) (by unfold rdA; omega)
  have hA : rdA ps f ≤ ps.length := by unfold rdA; omega
  have e3 : imin ((rdA ps f : Int) + m) (ps.length : Int) = ((rdA ps f + rdK ps f m : Nat) : Int) := by unfold imin rdK; split <;> omega
  have hK : rdA ps f + rdK ps f m ≤ ps.length := by unfold rdK; omega
  have e4 : IntKind.wrap .i64 ((rdA ps f : Int) + ((rdK ps f m : Nat) : Int)) = ((rdA ps f + rdK ps f m : Nat) : Int) := by rw [wrapS (by omega) (by omega)]; omega
  refine FOk.wp (wR_wp pre post s c f m off mem b ps b ((ps.drop (rdA ps f)).take (rdK ps f m)) ?_)
  unfold wR_T
  rw [e1, e2, e3]
  simp only [Int.toNat_natCast, Nat.add_sub_cancel_left]
  rw [e4]
  exact ⟨decide_eq_true (by omega), cl_ok b ps hb hps hl _ _ hK, by first | trivial | exact ⟨rfl, rfl⟩⟩
end Go.MN
end

section
set_option linter.unusedVariables false
set_option linter.unusedSimpArgs false
set_option maxRecDepth 100000
namespace Go.MN
open Go Go.Abs Go.Proofs
theorem MT.gh {T T' : AState} {cs cs' : List Ch} {offs offs' : List ByteArray} (hM : MT T cs offs) (hM' : MT T' cs' offs') {f : FuncId} {rest : List AVal} {v : AVal} (hrest : idsInL [] rest = true) (hv : idsIn [] v = true)
    (h : FOk Tryd.prog f (.ptr 0 2 0 0 :: rest) T v T') : FOk Tryd.prog f (.ptr 0 2 0 0 :: rest) [.gh T] v [.gh T'] :=
  FOk.gh1 h rfl (by simp only [inScopeL, Bool.and_eq_true]; exact ⟨rfl, scopeL_closed rest hrest⟩) hM.ng (scope_closed v hv) hM'.ng ⟨_, hM'.h0, rfl⟩ (by have := hM.lt.1; omega)
theorem MT.step6 {f : FuncId} {rest : List AVal} {v : AVal} {T : AState} {cs1 cs2 : List Ch} {x : Ch} {offs : List ByteArray} (hM : MT T (cs1 ++ [x] ++ cs2) offs) (hrest : idsInL [] rest = true) (hv : idsIn [] v = true) (x' : Ch) (cP cQ : List Ch) (hPQ : ∀ y ∈ cP ++ cQ, y ∈ cs1 ++ cs2) (offs' : List ByteArray) (news : AState) (k : Nat) (o5 : AObj) (hp : x'.p = x.p) (hq : x'.q = x.q)
    (hr : (x'.r = x.r ∧ k = 5 ∧ o5 = .rows true 2 x'.ps ∧ news = []) ∨ (x'.r = T.length ∧ k = 6 ∧ o5 = .dead ∧ news = [.rows true 2 x'.ps]))
    (hnd : (List.range 3 ++ (cP ++ [x'] ++ cQ).flatMap Ch.pl).Nodup)
    (h : ∀ β, FOk Tryd.prog f (.ptr 0 2 0 0 :: rest) (H6 (hideE β (entsOf cs1)) (hideE β (entsOf cs2)) x.s x.c (gms offs) (gms x.us) x.b x.ps) v (.rows false 2 [[.map 1, .map 2]] :: .mq (hideE β (entsOf cP)) [(ky x'.s x'.c, .ptr 3 2 0 0)] (hideE β (entsOf cQ)) :: .mp true (gms offs') :: .rows false 2 [[.map 4, .slc x'.b k 2 0 x'.ps.length none]] :: .mp true (gms x'.us) :: o5 :: news)) :
    ∃ T', MT T' (cP ++ [x'] ++ cQ) offs' ∧ FOk Tryd.prog f (.ptr 0 2 0 0 :: rest) [.gh T] v [.gh T'] := by
  have hM' := hM.put x' cP cQ hPQ offs' news k o5 hp hq hr hnd
  refine ⟨_, hM', hM.gh hM' hrest hv ?_⟩
  have h2 := lift6 hM hrest hv hPQ h
  have he : entsOf cP ++ List.map (fun e => (ren (emb [0, 1, 2, x.p, x.q, x.r] T.length) e.1, ren (emb [0, 1, 2, x.p, x.q, x.r] T.length) e.2)) [(ky x'.s x'.c, AVal.ptr 3 2 0 0)] ++ entsOf cQ = entsOf (cP ++ [x'] ++ cQ) := by
    unfold entsOf
    rw [List.map_append, List.map_append]
    show _ ++ [(ky x'.s x'.c, AVal.ptr x.p 2 0 0)] ++ _ = _ ++ [(ky x'.s x'.c, AVal.ptr x'.p 2 0 0)] ++ _
    rw [hp]
  rw [he] at h2
  exact h2
theorem map_fix {φ : Nat → Nat} : ∀ {l : List Nat}, (∀ j ∈ l, φ j = j) → l.map φ = l
  | [], _ => rfl
  | x :: l, h => by rw [List.map_cons, h x (by simp), map_fix fun j hj => h j (by simp [hj])]
theorem MT.ndR {T : AState} {cs1 cs2 : List Ch} {x : Ch} {offs : List ByteArray} (hM : MT T (cs1 ++ [x] ++ cs2) offs) (x' : Ch) (hp : x'.p = x.p) (hq : x'.q = x.q) (hr : x'.r = x.r ∨ x'.r = T.length) : (List.range 3 ++ (cs1 ++ [x'] ++ cs2).flatMap Ch.pl).Nodup := by
  rcases hr with hr | hr
  · have : (cs1 ++ [x'] ++ cs2).flatMap Ch.pl = (cs1 ++ [x] ++ cs2).flatMap Ch.pl := by
      simp [List.flatMap_append, Ch.pl, hp, hq, hr]
    rw [this]; exact hM.nd
  obtain ⟨hlen, hlt⟩ := hM.lt
  obtain ⟨hge, npq, npr, nqr, hoth⟩ := hM.one
  have hold : ∀ y ∈ cs1 ++ cs2, y ∈ cs1 ++ [x] ++ cs2 := fun y hy => by
    rcases List.mem_append.1 hy with h | h <;> simp [h]
  have hfix : ∀ cs : List Ch, (∀ y ∈ cs, y ∈ cs1 ++ cs2) → (cs.flatMap Ch.pl).map (fun j => if j = x.r then T.length else j) = cs.flatMap Ch.pl := fun cs hcs => map_fix fun j hj => by
    obtain ⟨y, hy, hj⟩ := List.mem_flatMap.1 hj
    have := (hoth y (hcs y hy) j hj).2
    simp [Ch.pl] at this
    rw [if_neg this.2.2]
  have e : List.range 3 ++ (cs1 ++ [x'] ++ cs2).flatMap Ch.pl = (List.range 3 ++ (cs1 ++ [x] ++ cs2).flatMap Ch.pl).map (fun j => if j = x.r then T.length else j) := by
    have hx := hge x.r (by simp [Ch.pl])
    rw [List.map_append, List.flatMap_append, List.flatMap_append, List.flatMap_append, List.flatMap_append, List.map_append, List.map_append, hfix cs1 (fun y hy => by simp [hy]), hfix cs2 (fun y hy => by simp [hy]), map_fix (l := List.range 3) (fun j hj => by
      simp at hj
      rw [if_neg (by omega)])]
    simp [Ch.pl, hp, hq, hr, npr, nqr]
  rw [e]
  unfold List.Nodup
  rw [List.pairwise_map]
  refine List.Pairwise.imp_of_mem (fun {a b} ha hb hab => ?_) hM.nd
  have hb : ∀ j ∈ List.range 3 ++ (cs1 ++ [x] ++ cs2).flatMap Ch.pl, j < T.length := fun j hj => by
    rcases List.mem_append.1 hj with h | h
    · simp at h; omega
    · obtain ⟨y, hy, hj⟩ := List.mem_flatMap.1 h
      obtain ⟨q1, q2, q3⟩ := hlt y hy
      simp [Ch.pl] at hj; omega
  have h1 := hb a ha
  have h2 := hb b ‹_›
  split <;> split <;> omega
theorem MT.keep3 {T : AState} {cs : List Ch} {offs : List ByteArray} (hM : MT T cs offs) : MT (putT3 T (.rows false 2 [[.map 1, .map 2]]) (.mp true (gms offs)) [] (entsOf cs)) cs offs := by
  obtain ⟨g0, g1, g2, g6, g7⟩ := putT3_get hM (.rows false 2 [[.map 1, .map 2]]) (.mp true (gms offs)) [] (entsOf cs)
  obtain ⟨hlen, hlt⟩ := hM.lt
  have hge : ∀ y ∈ cs, ∀ j ∈ y.pl, 3 ≤ j ∧ j < T.length := fun y hy j hj => by
    have hn := hM.nd
    rw [List.nodup_append] at hn
    obtain ⟨a, b, c⟩ := hlt y hy
    refine ⟨?_, by simp [Ch.pl] at hj; omega⟩
    rcases Nat.lt_or_ge j 3 with h | h
    · exact absurd rfl (hn.2.2 j (by simpa using h) j (List.mem_flatMap.2 ⟨y, hy, hj⟩))
    · exact h
  refine ⟨by rw [g0]; rfl, by rw [g1], by rw [g2]; rfl, fun y hy => ?_, fun y hy => ?_, fun y hy => ?_, hM.nd, putT3_gh hM _ rfl⟩
  · have := hge y hy y.p (by simp [Ch.pl])
    rw [g6 y.p this.2 this.1]; exact hM.hp y hy
  · have := hge y hy y.q (by simp [Ch.pl])
    rw [g6 y.q this.2 this.1]; exact hM.hq y hy
  · have := hge y hy y.r (by simp [Ch.pl])
    rw [g6 y.r this.2 this.1]; exact hM.hr y hy
theorem MT.same3 {f : FuncId} {rest : List AVal} {v : AVal} {T : AState} {cs : List Ch} {offs : List ByteArray} (hM : MT T cs offs) (hrest : idsInL [] rest = true) (hv : idsIn [] v = true)
    (h : ∀ β, FOk Tryd.prog f (.ptr 0 2 0 0 :: rest) (H3 (hideE β (entsOf cs)) (gms offs)) v (H3 (hideE β (entsOf cs)) (gms offs))) : ∃ T', MT T' cs offs ∧ FOk Tryd.prog f (.ptr 0 2 0 0 :: rest) [.gh T] v [.gh T'] := by
  refine ⟨_, hM.keep3, hM.gh hM.keep3 hrest hv ?_⟩
  have h2 := lift3 (own := []) hM hrest hv h
  rw [show entsOf cs ++ ent0 (emb [0, 1, 2] T.length) [] = entsOf cs by simp] at h2
  exact h2

structure Mo where
  s : ByteArray
  c : ByteArray
  us : List ByteArray
  ps : List (List AVal)
abbrev Ch.mo (x : Ch) : Mo := ⟨x.s, x.c, x.us, x.ps⟩
def noMo (s c : ByteArray) (m : List Mo) : Prop := ∀ k ∈ m, ¬ (k.s = s ∧ k.c = c)
structure MoOk (k : Mo) : Prop where
  nd : k.us.Nodup
  len : k.ps.length ≤ 1024
  posts : ∀ r ∈ k.ps, isPost r
structure MX (T : AState) (m : List Mo) (offs : List ByteArray) : Prop where
  ex : ∃ cs : List Ch, cs.map Ch.mo = m ∧ MT T cs offs ∧ ∀ x ∈ cs, x.b = true → x.ps = []
def Done (op : AVal) (T : AState) (r : AVal) (m' : List Mo) (offs' : List ByteArray) : Prop := ∃ T', MX T' m' offs' ∧ FOk Tryd.prog 13 [.ptr 0 2 0 0, op] [.gh T] r [.gh T']
theorem noMo_ch {s c : ByteArray} {cs : List Ch} (h : noMo s c (cs.map Ch.mo)) : noCh s c cs := fun x hx he => h x.mo (List.mem_map.2 ⟨x, hx, rfl⟩) he
theorem MX.split {T : AState} {m1 m2 : List Mo} {k : Mo} {offs : List ByteArray} (h : MX T (m1 ++ [k] ++ m2) offs) : ∃ cs1 x cs2, cs1.map Ch.mo = m1 ∧ x.mo = k ∧ cs2.map Ch.mo = m2 ∧ MT T (cs1 ++ [x] ++ cs2) offs ∧ ∀ y ∈ cs1 ++ [x] ++ cs2, y.b = true → y.ps = [] := by
  obtain ⟨cs, h1, h2, h3⟩ := h.ex
  obtain ⟨l12, cs2, rfl, h4, h5⟩ := List.map_eq_append_iff.1 h1
  obtain ⟨cs1, l, rfl, h6, h7⟩ := List.map_eq_append_iff.1 h4
  obtain ⟨x, rfl, h8⟩ : ∃ x, l = [x] ∧ x.mo = k := by
    match l, h7 with
    | [x], h7 => exact ⟨x, rfl, by simpa using h7⟩
  exact ⟨cs1, x, cs2, h6, h8, h5, h2, h3⟩
theorem doA {T : AState} {m : List Mo} {offs : List ByteArray} (h : MX T m offs) (k : Int) (s c u x y z : ByteArray) (f n : Int) (ck : FOk Tryd.prog 21 [opw k s c u x y z f n] [] (.int .i64 1) []) : Done (opw k s c u x y z f n) T (rep 1 0 nilps) m offs := by
  obtain ⟨cs, rfl, hM, hb⟩ := h.ex
  obtain ⟨T', h1, h2⟩ := hM.same3 rfl rfl fun β => doA3 (hideE β (entsOf cs)) (gms offs) k s c u x y z f n ck
  exact ⟨T', ⟨cs, rfl, h1, hb⟩, h2⟩
theorem doN {T : AState} {m : List Mo} {offs : List ByteArray} (h : MX T m offs) (k : Int) (s c u x y z : ByteArray) (f n : Int) (ck : FOk Tryd.prog 21 [opw k s c u x y z f n] [] (.int .i64 0) []) (hn : noMo s c m) (h1 : k ≠ 1) (h6 : k ≠ 6) (h7 : k ≠ 7) : Done (opw k s c u x y z f n) T (rep 3 0 nilps) m offs := by
  obtain ⟨cs, rfl, hM, hb⟩ := h.ex
  obtain ⟨T', h1, h2⟩ := hM.same3 rfl rfl fun β => doN3 (hideE β (entsOf cs)) (gms offs) k s c u x y z f n ck (hide_keys β cs) (afind_none β s c cs (noMo_ch hn)) h1 h6 h7
  exact ⟨T', ⟨cs, rfl, h1, hb⟩, h2⟩
theorem doM {T : AState} {m : List Mo} {offs : List ByteArray} (h : MX T m offs) (s c : ByteArray) (ck : FOk Tryd.prog 21 [opw 1 s c w0 w0 w0 w0 0 0] [] (.int .i64 0) []) (hn : noMo s c m) : Done (opw 1 s c w0 w0 w0 w0 0 0) T (rep 0 0 nilps) (m ++ [⟨s, c, [], []⟩]) offs := by
  obtain ⟨cs, rfl, hM, hb⟩ := h.ex
  have h2 := lift3 (f := 13) (rest := [opw 1 s c w0 w0 w0 w0 0 0]) (v := rep 0 0 nilps) (own := [(ky s c, .ptr 3 2 0 0)]) hM rfl rfl fun β => doM3 (hideE β (entsOf cs)) (gms offs) s c ck (hide_keys β cs) (afind_none β s c cs (noMo_ch hn))
  have hM' := hM.make s c
  refine ⟨_, ⟨_, ?_, hM', ?_⟩, hM.gh hM' rfl rfl ?_⟩
  · simp
  · intro x hx hxb
    rcases List.mem_append.1 hx with hx | hx
    · exact hb x hx hxb
    · simp at hx; subst hx; rfl
  · have e : entsOf cs ++ ent0 (emb [0, 1, 2] T.length) [(ky s c, .ptr 3 2 0 0)] = entsOf (cs ++ [⟨s, c, [], [], true, T.length, T.length + 1, T.length + 2⟩]) := by
      unfold entsOf
      rw [List.map_append]
      show _ ++ [(ky s c, AVal.ptr (emb [0, 1, 2] T.length 3) 2 0 0)] = _ ++ [(ky s c, AVal.ptr T.length 2 0 0)]
      rfl
    rw [e] at h2
    exact h2
theorem doK {T : AState} {m1 m2 : List Mo} {k : Mo} {offs : List ByteArray} (h : MX T (m1 ++ [k] ++ m2) offs) {op v : AVal} (hop : idsInL [] [op] = true) (hv : idsIn [] v = true) (hn : noMo k.s k.c m1)
    (hd : ∀ (pre post : Ents) (b : Bool), keysOk (pre ++ post) → afind (ky k.s k.c) pre = none → (b = true → k.ps = []) → FOk Tryd.prog 13 [.ptr 0 2 0 0, op] (H6 pre post k.s k.c (gms offs) (gms k.us) b k.ps) v (H6 pre post k.s k.c (gms offs) (gms k.us) b k.ps)) : Done op T v (m1 ++ [k] ++ m2) offs := by
  obtain ⟨cs1, x, cs2, rfl, rfl, rfl, hM, hb⟩ := h.split
  obtain ⟨T', h1, h2⟩ := hM.step6 hop hv x cs1 cs2 (fun y hy => hy) offs [] 5 (.rows true 2 x.ps) rfl rfl (.inl ⟨rfl, rfl, rfl, rfl⟩) hM.nd fun β => hd _ _ x.b (by rw [← hide_app, show entsOf cs1 ++ entsOf cs2 = entsOf (cs1 ++ cs2) by simp [entsOf]]; exact hide_keys β _) (afind_none β _ _ cs1 (noMo_ch hn)) (hb x (by simp))
  exact ⟨T', ⟨_, by simp, h1, hb⟩, h2⟩
theorem doU {T : AState} {m1 m2 : List Mo} {k : Mo} {offs us' : List ByteArray} (h : MX T (m1 ++ [k] ++ m2) offs) {op v : AVal} (hop : idsInL [] [op] = true) (hv : idsIn [] v = true) (hn : noMo k.s k.c m1)
    (hd : ∀ (pre post : Ents) (b : Bool), keysOk (pre ++ post) → afind (ky k.s k.c) pre = none → (b = true → k.ps = []) → FOk Tryd.prog 13 [.ptr 0 2 0 0, op] (H6 pre post k.s k.c (gms offs) (gms k.us) b k.ps) v (H6 pre post k.s k.c (gms offs) (gms us') b k.ps)) : Done op T v (m1 ++ [⟨k.s, k.c, us', k.ps⟩] ++ m2) offs := by
  obtain ⟨cs1, x, cs2, rfl, rfl, rfl, hM, hb⟩ := h.split
  obtain ⟨T', h1, h2⟩ := hM.step6 hop hv { x with us := us' } cs1 cs2 (fun y hy => hy) offs [] 5 (.rows true 2 x.ps) rfl rfl (.inl ⟨rfl, rfl, rfl, rfl⟩) (hM.ndR _ rfl rfl (.inl rfl)) fun β => hd _ _ x.b (by rw [← hide_app, show entsOf cs1 ++ entsOf cs2 = entsOf (cs1 ++ cs2) by simp [entsOf]]; exact hide_keys β _) (afind_none β _ _ cs1 (noMo_ch hn)) (hb x (by simp))
  refine ⟨T', ⟨_, by simp, h1, fun y hy => ?_⟩, h2⟩
  simp only [List.mem_append, List.mem_singleton] at hy
  rcases hy with (hy | rfl) | hy
  · exact hb y (by simp [hy])
  · exact hb x (by simp)
  · exact hb y (by simp [hy])
theorem doT {T : AState} {m1 m2 : List Mo} {k : Mo} {offs : List ByteArray} (h : MX T (m1 ++ [k] ++ m2) offs) (u x : ByteArray) (ck : FOk Tryd.prog 21 [opw 3 k.s k.c u x w0 w0 0 0] [] (.int .i64 0) []) (hn : noMo k.s k.c m1) (h1 : u ∉ offs) (h2 : u ∈ k.us) (hp : k.ps.length < 1024) :
    Done (opw 3 k.s k.c u x w0 w0 0 0) T (rep 0 k.ps.length nilps) (m1 ++ [⟨k.s, k.c, k.us, k.ps ++ [[.str u, .str x]]⟩] ++ m2) offs := by
  obtain ⟨cs1, y, cs2, rfl, rfl, rfl, hM, hb⟩ := h.split
  obtain ⟨T', h3, h4⟩ := hM.step6 (f := 13) (rest := [opw 3 y.s y.c u x w0 w0 0 0]) (v := rep 0 y.ps.length nilps) rfl rfl { y with ps := y.ps ++ [[.str u, .str x]], b := y.b && false, r := T.length } cs1 cs2 (fun y hy => hy) offs [.rows true 2 (y.ps ++ [[.str u, .str x]])] 6 .dead rfl rfl (.inr ⟨rfl, rfl, rfl, rfl⟩) (hM.ndR _ rfl rfl (.inr rfl)) fun β => by
    have := doP (hideE β (entsOf cs1)) (hideE β (entsOf cs2)) y.s y.c u x offs y.us y.b y.ps ck (by rw [← hide_app, show entsOf cs1 ++ entsOf cs2 = entsOf (cs1 ++ cs2) by simp [entsOf]]; exact hide_keys β _) (afind_none β _ _ cs1 (noMo_ch hn)) h1 h2 hp
    simpa using this
  refine ⟨T', ⟨_, by simp, h3, fun z hz => ?_⟩, h4⟩
  simp only [List.mem_append, List.mem_singleton] at hz
  rcases hz with (hz | rfl) | hz
  · exact hb z (by simp [hz])
  · intro h; simp at h
  · exact hb z (by simp [hz])
end Go.MN
end

section
set_option linter.unusedVariables false
set_option maxRecDepth 100000
namespace Go.MN
open Go Go.Abs Go.Proofs
abbrev A3 (β : Nat → Nat) (ents off : Ents) (bs : List Nat) (k : Nat) : AState := [.rows false 2 [[.map 1, .map 2]], .mpn true (hideE β ents) bs k, .mp true off]
abbrev opR (u : ByteArray) : AObj := .rows true 9 [[.int .i64 7, .str w0, .str w0, .str u, .str w0, .str w0, .str w0, .int .i64 0, .int .i64 0]]
abbrev A7o (β : Nat → Nat) (ents off : Ents) (bs : List Nat) (k : Nat) (u : ByteArray) (it : AObj) : AState := [.rows false 2 [[.map 1, .map 2]], .mpn true (hideE β ents) bs k, .mp true off, opR u, .rows false 3 [[.int .i64 0, .int .i64 0, .fsl true 0 [] (some 0)]], .rows true 2 [[.str w0, .str w0]], it]
abbrev A7 (β : Nat → Nat) (ents off : Ents) (bs se : List Nat) (k : Nat) (u : ByteArray) : AState := A7o β ents off bs k u (.miter (some 1) k se k)
abbrev RA : Regs := mkR 97 [(3, .ptr 3 9 0 0), (4, .ptr 4 3 0 0), (77, .ptr 6 1 0 0)]
abbrev RE : Regs := mkR 97 [(3, .ptr 3 9 0 0), (4, .ptr 4 3 0 0)]
abbrev iqQF : Int → AVal := AVal.int IntKind.i64
theorem dOX_1 (off : Ents) (ents : Ents) (u : ByteArray) (bs : List Nat) (k : Nat) (L : Nat) (Ts : Nat → AState) (β : Nat → Nat) (I : List Nat) (N : Nat) (hI : ∀ id ∈ I, id < N) (hnd : Go.Abs.nodupB ([0, 1, 2]) = true) (hlt : ∀ j ∈ ([0, 1, 2] : List Nat), j < L) (hL : ∀ i, (Ts i).length = L) (hN : N = (plug (Ts 0) ([0, 1, 2]) (A3 β ents off bs k)).length)
    (h1 : Owed.loop (owedX Tryd.prog 3 [0, 1, 2] L Ts β I N 0) (loopNo Tryd.f13 0) (mkR 97 [(3, AVal.ptr 3 9 0 0), (4, AVal.ptr 4 3 0 0), (77, AVal.ptr 6 1 0 0)]) [AObj.rows false 2 [[AVal.map 1, AVal.map 2]], AObj.mpn true (hideE β ents) bs k, AObj.mp true (aput (AVal.str u) (AVal.tt true) off), AObj.rows true 9 [[iqQF 7, AVal.str w0, AVal.str w0, AVal.str u, AVal.str w0, AVal.str w0, AVal.str w0, iqQF 0, iqQF 0]], AObj.rows false 3 [[iqQF 0, iqQF 0, AVal.fsl true 0 [] (some 0)]], AObj.rows true 2 [[AVal.str w0, AVal.str w0]], AObj.miter (some 1) k [] k] (AExit.exit 1) (mkR 97 [(3, AVal.ptr 3 9 0 0), (4, AVal.ptr 4 3 0 0)]) [AObj.rows false 2 [[AVal.map 1, AVal.map 2]], AObj.mpn true (hideE β ents) bs k, AObj.mp true (aput (AVal.str u) (AVal.tt true) off), AObj.rows true 9 [[iqQF 7, AVal.str w0, AVal.str w0, AVal.str u, AVal.str w0, AVal.str w0, AVal.str w0, iqQF 0, iqQF 0]], AObj.rows false 3 [[iqQF 0, iqQF 0, AVal.fsl true 0 [] (some 0)]], AObj.rows true 2 [[AVal.str w0, AVal.str w0]], AObj.dead])
    (h2 : (List.all off fun p => keyKind Tryd.prog 9 (Prod.fst p)) = true)
    (h3 : (if false = true then AVal.tuple [asType Tryd.prog 4 (reifyL [Kind.bool] (AVal.cells (Option.getD (afind (AVal.str u) off) (AVal.tt false)))), AVal.tt (Option.isSome (afind (AVal.str u) off))] else asType Tryd.prog 4 (reifyL [Kind.bool] (AVal.cells (Option.getD (afind (AVal.str u) off) (AVal.tt false))))) = AVal.bool false)
    (h4 : okCells Tryd.prog 4 (Option.getD (afind (AVal.str u) off) (AVal.tt false)) = true)
    (h5 : AVal.tuple [asType Tryd.prog 70 (reifyL [Kind.other] (AVal.cells (Option.getD (afind (AVal.agg [AVal.str w0, AVal.str w0]) (hideE β ents)) AVal.nilp))), AVal.tt (Option.isSome (afind (AVal.agg [AVal.str w0, AVal.str w0]) (hideE β ents)))] = AVal.tuple [AVal.nilp, AVal.tt false])
    (h6 : okCells Tryd.prog 70 (Option.getD (afind (AVal.agg [AVal.str w0, AVal.str w0]) (hideE β ents)) AVal.nilp) = true)
    (h7 : (List.all (hideE β ents) fun p => keyKind Tryd.prog 69 (Prod.fst p)) = true)
    (h8 : FOk Tryd.prog 21 [AVal.agg [iqQF 7, AVal.str w0, AVal.str w0, AVal.str u, AVal.str w0, AVal.str w0, AVal.str w0, iqQF 0, iqQF 0]] [] (iqQF 0) [])
    (h9 : FOk Tryd.prog 27 [AVal.ptr 0 2 0 0] [AObj.rows false 2 [[AVal.map 1, AVal.map 2]], AObj.mpn true (hideE β ents) bs k, AObj.mp true off] (AVal.bool true) [AObj.rows false 2 [[AVal.map 1, AVal.map 2]], AObj.mpn true (hideE β ents) bs k, AObj.mp true off]) :
    FOkB Tryd.prog β I 13 (renL (emb ([0, 1, 2]) L) ([AVal.ptr 0 2 0 0, opw 7 w0 w0 u w0 w0 w0 0 0])) (plug (Ts 0) ([0, 1, 2]) (A3 β ents off bs k)) (ren (emb ([0, 1, 2]) L) (AVal.agg [iqQF 0, iqQF 0, AVal.fsl true 2 [] none])) (plug (Ts 1) ([0, 1, 2]) ([AObj.rows false 2 [[AVal.map 1, AVal.map 2]], AObj.mpn true (hideE β ents) bs k, AObj.mp true (aput (AVal.str u) (AVal.tt true) off), AObj.rows true 9 [[iqQF 7, AVal.str w0, AVal.str w0, AVal.str u, AVal.str w0, AVal.str w0, AVal.str w0, iqQF 0, iqQF 0]], AObj.rows false 3 [[iqQF 0, iqQF 0, AVal.fsl true 0 [] (some 0)]], AObj.rows true 2 [[AVal.str w0, AVal.str w0]], AObj.dead])) :=
  (evalFX_ok followed Tryd.func13 (by kernel_rfl) hI hnd hlt hL hN (show evalFX Tryd.prog (owedX Tryd.prog 3 [0, 1, 2] L Ts β I N) 3 1 Tryd.f13 ([AVal.ptr 0 2 0 0, opw 7 w0 w0 u w0 w0 w0 0 0]) (A3 β ents off bs k) ([Dec.use [0, 1, 2] [AVal.ptr 0 2 0 0] [AObj.rows false 2 [[AVal.map 1, AVal.map 2]], AObj.mpn true (hideE β ents) bs k, AObj.mp true off] (AVal.bool true) [AObj.rows false 2 [[AVal.map 1, AVal.map 2]], AObj.mpn true (hideE β ents) bs k, AObj.mp true off], Dec.br false, Dec.use [] [AVal.agg [iqQF 7, AVal.str w0, AVal.str w0, AVal.str u, AVal.str w0, AVal.str w0, AVal.str w0, iqQF 0, iqQF 0]] [] (iqQF 0) [], Dec.br false, Dec.rw (AVal.tuple [AVal.nilp, AVal.tt false]), Dec.br false, Dec.br false, Dec.br true, Dec.rw (AVal.bool false), Dec.br false, Dec.compact (keepM 97 [3, 4, 77]) [0, 1, 2, 3, 4, 6], Dec.loop (AExit.exit 1) RE (A7o β ents (aput (AVal.str u) (AVal.tt true) off) bs k u AObj.dead)]) = .ok (FRes.mk (AVal.agg [iqQF 0, iqQF 0, AVal.fsl true 2 [] none]) ([AObj.rows false 2 [[AVal.map 1, AVal.map 2]], AObj.mpn true (hideE β ents) bs k, AObj.mp true (aput (AVal.str u) (AVal.tt true) off), AObj.rows true 9 [[iqQF 7, AVal.str w0, AVal.str w0, AVal.str u, AVal.str w0, AVal.str w0, AVal.str w0, iqQF 0, iqQF 0]], AObj.rows false 3 [[iqQF 0, iqQF 0, AVal.fsl true 0 [] (some 0)]], AObj.rows true 2 [[AVal.str w0, AVal.str w0]], AObj.dead]) (tr 4 ++ ((Owed.loop (owedX Tryd.prog 3 [0, 1, 2] L Ts β I N 0) (loopNo Tryd.f13 0) (mkR 97 [(3, AVal.ptr 3 9 0 0), (4, AVal.ptr 4 3 0 0), (77, AVal.ptr 6 1 0 0)]) [AObj.rows false 2 [[AVal.map 1, AVal.map 2]], AObj.mpn true (hideE β ents) bs k, AObj.mp true (aput (AVal.str u) (AVal.tt true) off), AObj.rows true 9 [[iqQF 7, AVal.str w0, AVal.str w0, AVal.str u, AVal.str w0, AVal.str w0, AVal.str w0, iqQF 0, iqQF 0]], AObj.rows false 3 [[iqQF 0, iqQF 0, AVal.fsl true 0 [] (some 0)]], AObj.rows true 2 [[AVal.str w0, AVal.str w0]], AObj.miter (some 1) k [] k] (AExit.exit 1) (mkR 97 [(3, AVal.ptr 3 9 0 0), (4, AVal.ptr 4 3 0 0)]) [AObj.rows false 2 [[AVal.map 1, AVal.map 2]], AObj.mpn true (hideE β ents) bs k, AObj.mp true (aput (AVal.str u) (AVal.tt true) off), AObj.rows true 9 [[iqQF 7, AVal.str w0, AVal.str w0, AVal.str u, AVal.str w0, AVal.str w0, AVal.str w0, iqQF 0, iqQF 0]], AObj.rows false 3 [[iqQF 0, iqQF 0, AVal.fsl true 0 [] (some 0)]], AObj.rows true 2 [[AVal.str w0, AVal.str w0]], AObj.dead]) :: (tr 4 ++ (((List.all off fun p => keyKind Tryd.prog 9 (Prod.fst p)) = true) :: (tr 22 ++ ((false = false) :: (tr 2 ++ (((if false = true then AVal.tuple [asType Tryd.prog 4 (reifyL [Kind.bool] (AVal.cells (Option.getD (afind (AVal.str u) off) (AVal.tt false)))), AVal.tt (Option.isSome (afind (AVal.str u) off))] else asType Tryd.prog 4 (reifyL [Kind.bool] (AVal.cells (Option.getD (afind (AVal.str u) off) (AVal.tt false))))) = AVal.bool false) :: ((okCells Tryd.prog 4 (Option.getD (afind (AVal.str u) off) (AVal.tt false)) = true) :: (((List.all off fun p => keyKind Tryd.prog 9 (Prod.fst p)) = true) :: (tr 23 ++ ((false = false) :: ((false = false) :: (tr 15 ++ ((AVal.tuple [asType Tryd.prog 70 (reifyL [Kind.other] (AVal.cells (Option.getD (afind (AVal.agg [AVal.str w0, AVal.str w0]) (hideE β ents)) AVal.nilp))), AVal.tt (Option.isSome (afind (AVal.agg [AVal.str w0, AVal.str w0]) (hideE β ents)))] = AVal.tuple [AVal.nilp, AVal.tt false]) :: ((okCells Tryd.prog 70 (Option.getD (afind (AVal.agg [AVal.str w0, AVal.str w0]) (hideE β ents)) AVal.nilp) = true) :: (((List.all (hideE β ents) fun p => keyKind Tryd.prog 69 (Prod.fst p)) = true) :: (tr 28 ++ ((false = false) :: ((Owed.use (owedX Tryd.prog 3 [0, 1, 2] L Ts β I N 0) 21 [] [AVal.agg [iqQF 7, AVal.str w0, AVal.str w0, AVal.str u, AVal.str w0, AVal.str w0, AVal.str w0, iqQF 0, iqQF 0]] [AObj.rows false 2 [[AVal.map 1, AVal.map 2]], AObj.mpn true (hideE β ents) bs k, AObj.mp true off, AObj.rows true 9 [[iqQF 7, AVal.str w0, AVal.str w0, AVal.str u, AVal.str w0, AVal.str w0, AVal.str w0, iqQF 0, iqQF 0]], AObj.rows false 3 [[iqQF 0, iqQF 0, AVal.fsl true 0 [] (some 0)]]] [AVal.agg [iqQF 7, AVal.str w0, AVal.str w0, AVal.str u, AVal.str w0, AVal.str w0, AVal.str w0, iqQF 0, iqQF 0]] [] (iqQF 0) []) :: (tr 3 ++ ((false = false) :: ((Owed.use (owedX Tryd.prog 3 [0, 1, 2] L Ts β I N 0) 27 [0, 1, 2] [AVal.ptr 0 2 0 0] [AObj.rows false 2 [[AVal.map 1, AVal.map 2]], AObj.mpn true (hideE β ents) bs k, AObj.mp true off, AObj.rows true 9 [[iqQF 7, AVal.str w0, AVal.str w0, AVal.str u, AVal.str w0, AVal.str w0, AVal.str w0, iqQF 0, iqQF 0]], AObj.rows false 3 [[iqQF 0, iqQF 0, AVal.fsl true 0 [] (some 0)]]] [AVal.ptr 0 2 0 0] [AObj.rows false 2 [[AVal.map 1, AVal.map 2]], AObj.mpn true (hideE β ents) bs k, AObj.mp true off] (AVal.bool true) [AObj.rows false 2 [[AVal.map 1, AVal.map 2]], AObj.mpn true (hideE β ents) bs k, AObj.mp true off]) :: [])))))))))))))))))))))))) by kernel_rfl) (allP_of (trC 4 ⟨h1, (trC 4 ⟨h2, (trC 22 ⟨rfl, (trC 2 ⟨h3, ⟨h4, ⟨h2, (trC 23 ⟨rfl, ⟨rfl, (trC 15 ⟨h5, ⟨h6, ⟨h7, (trC 28 ⟨rfl, ⟨⟨h8, rfl, rfl, rfl⟩, (trC 3 ⟨rfl, ⟨⟨h9, rfl, rfl, rfl⟩, trivial⟩⟩)⟩⟩)⟩⟩⟩)⟩⟩)⟩⟩⟩)⟩)⟩)⟩)))


theorem gv3n_1 (β : Nat → Nat) (ents : Ents) (off : Ents) (bs : List Nat) (k : Nat) :
    FOk Tryd.prog 27 ([AVal.ptr 0 2 0 0]) (A3 β ents off bs k) (AVal.bool true) ([AObj.rows false 2 [[AVal.map 1, AVal.map 2]], AObj.mpn true (hideE β ents) bs k, AObj.mp true off]) :=
  (evalF_ok followed Tryd.func27 (by kernel_rfl) (show evalF Tryd.prog Tryd.f27 ([AVal.ptr 0 2 0 0]) (A3 β ents off bs k) ([Dec.br true]) = .ok (FRes.mk (AVal.bool true) ([AObj.rows false 2 [[AVal.map 1, AVal.map 2]], AObj.mpn true (hideE β ents) bs k, AObj.mp true off]) (tr 3 ++ [])) by kernel_rfl) (allP_of (trC 3 trivial))).move ([0, 1, 2]) (by kernel_rfl) (by kernel_rfl) (by kernel_rfl)

def gv3n_T (β : Nat → Nat) (ents : Ents) (off : Ents) (bs : List Nat) (k : Nat) (Q : AVal → AState → Prop) : Prop := Q (AVal.bool true) ([AObj.rows false 2 [[AVal.map 1, AVal.map 2]], AObj.mpn true (hideE β ents) bs k, AObj.mp true off])
theorem gv3n_wp (β : Nat → Nat) (ents : Ents) (off : Ents) (bs : List Nat) (k : Nat) {Q : AVal → AState → Prop} (h : gv3n_T β ents off bs k Q) : ∃ r σ', FOk Tryd.prog 27 ([AVal.ptr 0 2 0 0]) (A3 β ents off bs k) r σ' ∧ Q r σ' :=
  ⟨_, _, gv3n_1 β ents off bs k, h⟩


theorem dF3_1 (pre : Ents) (off : Ents) (u : ByteArray)
    (h1 : FOk Tryd.prog 28 [iqQF 92] [] (AVal.agg [iqQF 92, iqQF 0, AVal.fsl true 2 [] none]) [])
    (h2 : (if false = true then AVal.tuple [asType Tryd.prog 4 (reifyL [Kind.bool] (AVal.cells (Option.getD (afind (AVal.str u) off) (AVal.tt false)))), AVal.tt (Option.isSome (afind (AVal.str u) off))] else asType Tryd.prog 4 (reifyL [Kind.bool] (AVal.cells (Option.getD (afind (AVal.str u) off) (AVal.tt false))))) = AVal.bool true)
    (h3 : okCells Tryd.prog 4 (Option.getD (afind (AVal.str u) off) (AVal.tt false)) = true)
    (h4 : (List.all off fun p => keyKind Tryd.prog 9 (Prod.fst p)) = true)
    (h5 : AVal.tuple [Option.getD (afind (AVal.agg [AVal.str w0, AVal.str w0]) (pre ++ [] ++ [])) AVal.nilp, AVal.tt (Option.isSome (afind (AVal.agg [AVal.str w0, AVal.str w0]) (pre ++ [] ++ [])))] = AVal.tuple [AVal.nilp, AVal.tt false])
    (h6 : (List.all (pre ++ [] ++ []) fun p => keyKind Tryd.prog 69 (Prod.fst p)) = true)
    (h7 : FOk Tryd.prog 21 [AVal.agg [iqQF 7, AVal.str w0, AVal.str w0, AVal.str u, AVal.str w0, AVal.str w0, AVal.str w0, iqQF 0, iqQF 0]] [] (iqQF 0) [])
    (h8 : FOk Tryd.prog 27 [AVal.ptr 0 2 0 0] [AObj.rows false 2 [[AVal.map 1, AVal.map 2]], AObj.mq pre [] [], AObj.mp true off] (AVal.bool true) [AObj.rows false 2 [[AVal.map 1, AVal.map 2]], AObj.mq pre [] [], AObj.mp true off]) :
    FOk Tryd.prog 13 ([AVal.ptr 0 2 0 0, opw 7 w0 w0 u w0 w0 w0 0 0]) (H3 pre off) (AVal.agg [iqQF 92, iqQF 0, AVal.fsl true 2 [] none]) ([AObj.rows false 2 [[AVal.map 1, AVal.map 2]], AObj.mq pre [] [], AObj.mp true off]) :=
  (evalF_ok followed Tryd.func13 (by kernel_rfl) (show evalF Tryd.prog Tryd.f13 ([AVal.ptr 0 2 0 0, opw 7 w0 w0 u w0 w0 w0 0 0]) (H3 pre off) ([Dec.use [0, 1, 2] [AVal.ptr 0 2 0 0] [AObj.rows false 2 [[AVal.map 1, AVal.map 2]], AObj.mq pre [] [], AObj.mp true off] (AVal.bool true) [AObj.rows false 2 [[AVal.map 1, AVal.map 2]], AObj.mq pre [] [], AObj.mp true off], Dec.br false, Dec.use [] [AVal.agg [iqQF 7, AVal.str w0, AVal.str w0, AVal.str u, AVal.str w0, AVal.str w0, AVal.str w0, iqQF 0, iqQF 0]] [] (iqQF 0) [], Dec.br false, Dec.rw (AVal.tuple [AVal.nilp, AVal.tt false]), Dec.br false, Dec.br false, Dec.br true, Dec.rw (AVal.bool true), Dec.br true, Dec.use [] [iqQF 92] [] (rep 92 0 nilps) []]) = .ok (FRes.mk (AVal.agg [iqQF 92, iqQF 0, AVal.fsl true 2 [] none]) ([AObj.rows false 2 [[AVal.map 1, AVal.map 2]], AObj.mq pre [] [], AObj.mp true off, AObj.rows true 9 [[iqQF 7, AVal.str w0, AVal.str w0, AVal.str u, AVal.str w0, AVal.str w0, AVal.str w0, iqQF 0, iqQF 0]], AObj.rows false 3 [[iqQF 92, iqQF 0, AVal.fsl true 2 [] none]], AObj.rows true 2 [[AVal.str w0, AVal.str w0]]]) (tr 4 ++ ((Owed.use (owed Tryd.prog 3) 28 [] [iqQF 92] [AObj.rows false 2 [[AVal.map 1, AVal.map 2]], AObj.mq pre [] [], AObj.mp true off, AObj.rows true 9 [[iqQF 7, AVal.str w0, AVal.str w0, AVal.str u, AVal.str w0, AVal.str w0, AVal.str w0, iqQF 0, iqQF 0]], AObj.rows false 3 [[iqQF 0, iqQF 0, AVal.fsl true 0 [] (some 0)]], AObj.rows true 2 [[AVal.str w0, AVal.str w0]]] [iqQF 92] [] (AVal.agg [iqQF 92, iqQF 0, AVal.fsl true 2 [] none]) []) :: (tr 3 ++ (((if false = true then AVal.tuple [asType Tryd.prog 4 (reifyL [Kind.bool] (AVal.cells (Option.getD (afind (AVal.str u) off) (AVal.tt false)))), AVal.tt (Option.isSome (afind (AVal.str u) off))] else asType Tryd.prog 4 (reifyL [Kind.bool] (AVal.cells (Option.getD (afind (AVal.str u) off) (AVal.tt false))))) = AVal.bool true) :: ((okCells Tryd.prog 4 (Option.getD (afind (AVal.str u) off) (AVal.tt false)) = true) :: (((List.all off fun p => keyKind Tryd.prog 9 (Prod.fst p)) = true) :: (tr 23 ++ ((false = false) :: ((false = false) :: (tr 15 ++ ((AVal.tuple [Option.getD (afind (AVal.agg [AVal.str w0, AVal.str w0]) (pre ++ [] ++ [])) AVal.nilp, AVal.tt (Option.isSome (afind (AVal.agg [AVal.str w0, AVal.str w0]) (pre ++ [] ++ [])))] = AVal.tuple [AVal.nilp, AVal.tt false]) :: (((List.all (pre ++ [] ++ []) fun p => keyKind Tryd.prog 69 (Prod.fst p)) = true) :: (tr 28 ++ ((false = false) :: ((Owed.use (owed Tryd.prog 3) 21 [] [AVal.agg [iqQF 7, AVal.str w0, AVal.str w0, AVal.str u, AVal.str w0, AVal.str w0, AVal.str w0, iqQF 0, iqQF 0]] [AObj.rows false 2 [[AVal.map 1, AVal.map 2]], AObj.mq pre [] [], AObj.mp true off, AObj.rows true 9 [[iqQF 7, AVal.str w0, AVal.str w0, AVal.str u, AVal.str w0, AVal.str w0, AVal.str w0, iqQF 0, iqQF 0]], AObj.rows false 3 [[iqQF 0, iqQF 0, AVal.fsl true 0 [] (some 0)]]] [AVal.agg [iqQF 7, AVal.str w0, AVal.str w0, AVal.str u, AVal.str w0, AVal.str w0, AVal.str w0, iqQF 0, iqQF 0]] [] (iqQF 0) []) :: (tr 3 ++ ((false = false) :: ((Owed.use (owed Tryd.prog 3) 27 [0, 1, 2] [AVal.ptr 0 2 0 0] [AObj.rows false 2 [[AVal.map 1, AVal.map 2]], AObj.mq pre [] [], AObj.mp true off, AObj.rows true 9 [[iqQF 7, AVal.str w0, AVal.str w0, AVal.str u, AVal.str w0, AVal.str w0, AVal.str w0, iqQF 0, iqQF 0]], AObj.rows false 3 [[iqQF 0, iqQF 0, AVal.fsl true 0 [] (some 0)]]] [AVal.ptr 0 2 0 0] [AObj.rows false 2 [[AVal.map 1, AVal.map 2]], AObj.mq pre [] [], AObj.mp true off] (AVal.bool true) [AObj.rows false 2 [[AVal.map 1, AVal.map 2]], AObj.mq pre [] [], AObj.mp true off]) :: []))))))))))))))))))) by kernel_rfl) (allP_of (trC 4 ⟨⟨h1, rfl, rfl, rfl⟩, (trC 3 ⟨h2, ⟨h3, ⟨h4, (trC 23 ⟨rfl, ⟨rfl, (trC 15 ⟨h5, ⟨h6, (trC 28 ⟨rfl, ⟨⟨h7, rfl, rfl, rfl⟩, (trC 3 ⟨rfl, ⟨⟨h8, rfl, rfl, rfl⟩, trivial⟩⟩)⟩⟩)⟩⟩)⟩⟩)⟩⟩⟩)⟩))).move ([0, 1, 2]) (by kernel_rfl) (by kernel_rfl) (by kernel_rfl)

def dF3_T (pre : Ents) (off : Ents) (u : ByteArray) (Q : AVal → AState → Prop) : Prop := (FOk Tryd.prog 27 [AVal.ptr 0 2 0 0] [AObj.rows false 2 [[AVal.map 1, AVal.map 2]], AObj.mq pre [] [], AObj.mp true off] (AVal.bool true) [AObj.rows false 2 [[AVal.map 1, AVal.map 2]], AObj.mq pre [] [], AObj.mp true off]) ∧ (FOk Tryd.prog 21 [AVal.agg [AVal.int IntKind.i64 7, AVal.str w0, AVal.str w0, AVal.str u, AVal.str w0, AVal.str w0, AVal.str w0, AVal.int IntKind.i64 0, AVal.int IntKind.i64 0]] [] (AVal.int IntKind.i64 0) []) ∧ ((List.all (pre ++ [] ++ []) fun p => keyKind Tryd.prog 69 (Prod.fst p)) = true) ∧ (AVal.tuple [Option.getD (afind (AVal.agg [AVal.str w0, AVal.str w0]) (pre ++ [] ++ [])) AVal.nilp, AVal.tt (Option.isSome (afind (AVal.agg [AVal.str w0, AVal.str w0]) (pre ++ [] ++ [])))] = AVal.tuple [AVal.nilp, AVal.tt false]) ∧ ((List.all off fun p => keyKind Tryd.prog 9 (Prod.fst p)) = true) ∧ (okCells Tryd.prog 4 (Option.getD (afind (AVal.str u) off) (AVal.tt false)) = true) ∧ ((if false = true then AVal.tuple [asType Tryd.prog 4 (reifyL [Kind.bool] (AVal.cells (Option.getD (afind (AVal.str u) off) (AVal.tt false)))), AVal.tt (Option.isSome (afind (AVal.str u) off))] else asType Tryd.prog 4 (reifyL [Kind.bool] (AVal.cells (Option.getD (afind (AVal.str u) off) (AVal.tt false))))) = AVal.bool true) ∧ (FOk Tryd.prog 28 [AVal.int IntKind.i64 92] [] (AVal.agg [AVal.int IntKind.i64 92, AVal.int IntKind.i64 0, AVal.fsl true 2 [] none]) []) ∧ Q (AVal.agg [AVal.int IntKind.i64 92, AVal.int IntKind.i64 0, AVal.fsl true 2 [] none]) ([AObj.rows false 2 [[AVal.map 1, AVal.map 2]], AObj.mq pre [] [], AObj.mp true off])
theorem dF3_wp (pre : Ents) (off : Ents) (u : ByteArray) {Q : AVal → AState → Prop} (h : dF3_T pre off u Q) : ∃ r σ', FOk Tryd.prog 13 ([AVal.ptr 0 2 0 0, opw 7 w0 w0 u w0 w0 w0 0 0]) (H3 pre off) r σ' ∧ Q r σ' :=
  ⟨_, _, dF3_1 pre off u (h.2.2.2.2.2.2.2.1) (h.2.2.2.2.2.2.1) (h.2.2.2.2.2.1) (h.2.2.2.2.1) (h.2.2.2.1) (h.2.2.1) (h.2.1) (h.1), h.2.2.2.2.2.2.2.2⟩


end Go.MN
end

section
set_option linter.unusedVariables false
set_option maxRecDepth 100000
namespace Go.MN
open Go Go.Abs Go.Proofs
abbrev iqQG : Int → AVal := AVal.int IntKind.i64
def fstOf : Code → Code
  | .seq x _ => x
  | c => c
def blkOf : Code → Code
  | .block _ c => c
  | c => c
noncomputable abbrev oBody : Code := blkOf (restOf (restOf (loopNo Tryd.f13 0)))
abbrev A10 (β : Nat → Nat) (ents off : Ents) (bs se : List Nat) (k : Nat) (u : ByteArray) (b : Bool) (us : List ByteArray) (ps : List (List AVal)) : AState := [.rows false 2 [[.map 1, .map 2]], .mpn true (hideE β ents) bs k, .mp true off, .rows false 2 [[.map 4, .slc b 5 2 0 ps.length none]], .mp true (gms us), .rows true 2 ps, opR u, .rows false 3 [[.int .i64 0, .int .i64 0, .fsl true 0 [] (some 0)]], .rows true 2 [[.str w0, .str w0]], .miter (some 1) k se k]
theorem eA_1 (β : Nat → Nat) (ents : Ents) (off : Ents) (u : ByteArray) (bs : List Nat) (se : List Nat) (k : Nat) (bt : Nat) (s : ByteArray) (y : ByteArray)
    (h1 : Option.getD (entV (hideE β ents) bs se) AVal.any = AVal.tuple [AVal.agg [AVal.str s, AVal.str y], AVal.blk bt 2 0 0])
    (h2 : Option.isSome (entV (hideE β ents) bs se) = true) :
    TripN Tryd.prog 7 (fstOf oBody) (mkR 97 [(3, AVal.ptr 3 9 0 0), (4, AVal.ptr 4 3 0 0), (77, AVal.ptr 6 1 0 0), (79, AVal.tt true)]) (A7 β ents off bs se k u) (AExit.normal) (mkR 97 [(3, AVal.ptr 3 9 0 0), (4, AVal.ptr 4 3 0 0), (9, AVal.blk bt 2 0 0), (77, AVal.ptr 6 1 0 0)]) ([AObj.rows false 2 [[AVal.map 1, AVal.map 2]], AObj.mpn true (hideE β ents) bs k, AObj.mp true off, AObj.rows true 9 [[iqQG 7, AVal.str w0, AVal.str w0, AVal.str u, AVal.str w0, AVal.str w0, AVal.str w0, iqQG 0, iqQG 0]], AObj.rows false 3 [[iqQG 0, iqQG 0, AVal.fsl true 0 [] (some 0)]], AObj.rows true 2 [[AVal.str w0, AVal.str w0]], AObj.miter (some 1) k se k]) :=
  evalT (st := St.mk (mkR 97 [(3, AVal.ptr 3 9 0 0), (4, AVal.ptr 4 3 0 0), (77, AVal.ptr 6 1 0 0), (79, AVal.tt true)]) (A7 β ents off bs se k u) ([Dec.rw (AVal.tuple [ky s y, AVal.blk bt 2 0 0])]) []) (st' := St.mk (mkR 97 [(3, AVal.ptr 3 9 0 0), (4, AVal.ptr 4 3 0 0), (9, AVal.blk bt 2 0 0), (77, AVal.ptr 6 1 0 0), (79, AVal.tt true), (80, AVal.tuple [AVal.agg [AVal.str s, AVal.str y], AVal.blk bt 2 0 0]), (81, AVal.blk bt 2 0 0)]) ([AObj.rows false 2 [[AVal.map 1, AVal.map 2]], AObj.mpn true (hideE β ents) bs k, AObj.mp true off, AObj.rows true 9 [[iqQG 7, AVal.str w0, AVal.str w0, AVal.str u, AVal.str w0, AVal.str w0, AVal.str w0, iqQG 0, iqQG 0]], AObj.rows false 3 [[iqQG 0, iqQG 0, AVal.fsl true 0 [] (some 0)]], AObj.rows true 2 [[AVal.str w0, AVal.str w0]], AObj.miter (some 1) k se k]) ([]) ((Option.getD (entV (hideE β ents) bs se) AVal.any = AVal.tuple [AVal.agg [AVal.str s, AVal.str y], AVal.blk bt 2 0 0]) :: ((Option.isSome (entV (hideE β ents) bs se) = true) :: ((k = k) :: [])))) followed (by kernel_rfl) (allP_of ⟨h1, ⟨h2, ⟨rfl, trivial⟩⟩⟩) (keepM 97 [3, 4, 9, 77]) ([0, 1, 2, 3, 4, 5, 6]) (by kernel_rfl) (by kernel_rfl) (by kernel_rfl)

def eA_T (β : Nat → Nat) (ents : Ents) (off : Ents) (u : ByteArray) (bs : List Nat) (se : List Nat) (k : Nat) (bt : Nat) (s : ByteArray) (y : ByteArray) (Q : AExit → Regs → AState → Prop) : Prop := (Option.isSome (entV (hideE β ents) bs se) = true) ∧ (Option.getD (entV (hideE β ents) bs se) AVal.any = AVal.tuple [AVal.agg [AVal.str s, AVal.str y], AVal.blk bt 2 0 0]) ∧ Q (AExit.normal) (mkR 97 [(3, AVal.ptr 3 9 0 0), (4, AVal.ptr 4 3 0 0), (9, AVal.blk bt 2 0 0), (77, AVal.ptr 6 1 0 0)]) ([AObj.rows false 2 [[AVal.map 1, AVal.map 2]], AObj.mpn true (hideE β ents) bs k, AObj.mp true off, AObj.rows true 9 [[AVal.int IntKind.i64 7, AVal.str w0, AVal.str w0, AVal.str u, AVal.str w0, AVal.str w0, AVal.str w0, AVal.int IntKind.i64 0, AVal.int IntKind.i64 0]], AObj.rows false 3 [[AVal.int IntKind.i64 0, AVal.int IntKind.i64 0, AVal.fsl true 0 [] (some 0)]], AObj.rows true 2 [[AVal.str w0, AVal.str w0]], AObj.miter (some 1) k se k])
theorem eA_wp (β : Nat → Nat) (ents : Ents) (off : Ents) (u : ByteArray) (bs : List Nat) (se : List Nat) (k : Nat) (bt : Nat) (s : ByteArray) (y : ByteArray) {Q : AExit → Regs → AState → Prop} (h : eA_T β ents off u bs se k bt s y Q) : ∃ e rg' σ', TripN Tryd.prog 7 (fstOf oBody) (mkR 97 [(3, AVal.ptr 3 9 0 0), (4, AVal.ptr 4 3 0 0), (77, AVal.ptr 6 1 0 0), (79, AVal.tt true)]) (A7 β ents off bs se k u) e rg' σ' ∧ Q e rg' σ' :=
  ⟨_, _, _, eA_1 β ents off u bs se k bt s y (h.2.1) (h.1), h.2.2⟩


theorem eB_1 (β : Nat → Nat) (ents : Ents) (off : Ents) (u : ByteArray) (bs : List Nat) (se : List Nat) (k : Nat) (b : Bool) (us : List ByteArray) (ps : List (List AVal))
    (h1 : (List.all (gms us) fun p => keyKind Tryd.prog 9 (Prod.fst p)) = true) :
    TripN Tryd.prog 10 (restOf oBody) (mkR 97 [(3, AVal.ptr 6 9 0 0), (4, AVal.ptr 7 3 0 0), (9, AVal.ptr 3 2 0 0), (77, AVal.ptr 9 1 0 0)]) (A10 β ents off bs se k u b us ps) (AExit.normal) (mkR 97 [(3, AVal.ptr 6 9 0 0), (4, AVal.ptr 7 3 0 0), (77, AVal.ptr 9 1 0 0)]) ([AObj.rows false 2 [[AVal.map 1, AVal.map 2]], AObj.mpn true (hideE β ents) bs k, AObj.mp true off, AObj.rows false 2 [[AVal.map 4, AVal.slc b 5 2 0 (List.length ps) none]], AObj.mp true (adel (AVal.str u) (gms us)), AObj.rows true 2 ps, AObj.rows true 9 [[iqQG 7, AVal.str w0, AVal.str w0, AVal.str u, AVal.str w0, AVal.str w0, AVal.str w0, iqQG 0, iqQG 0]], AObj.rows false 3 [[iqQG 0, iqQG 0, AVal.fsl true 0 [] (some 0)]], AObj.rows true 2 [[AVal.str w0, AVal.str w0]], AObj.miter (some 1) k se k]) :=
  evalT (st := St.mk (mkR 97 [(3, AVal.ptr 6 9 0 0), (4, AVal.ptr 7 3 0 0), (9, AVal.ptr 3 2 0 0), (77, AVal.ptr 9 1 0 0)]) (A10 β ents off bs se k u b us ps) ([]) []) (st' := St.mk (mkR 97 [(3, AVal.ptr 6 9 0 0), (4, AVal.ptr 7 3 0 0), (9, AVal.ptr 3 2 0 0), (77, AVal.ptr 9 1 0 0), (82, AVal.ptr 3 2 0 0), (83, AVal.ptr 3 2 0 0), (84, AVal.ptr 3 2 0 0), (85, AVal.map 4), (86, AVal.ptr 6 9 0 3), (87, AVal.str u)]) ([AObj.rows false 2 [[AVal.map 1, AVal.map 2]], AObj.mpn true (hideE β ents) bs k, AObj.mp true off, AObj.rows false 2 [[AVal.map 4, AVal.slc b 5 2 0 (List.length ps) none]], AObj.mp true (adel (AVal.str u) (gms us)), AObj.rows true 2 ps, AObj.rows true 9 [[iqQG 7, AVal.str w0, AVal.str w0, AVal.str u, AVal.str w0, AVal.str w0, AVal.str w0, iqQG 0, iqQG 0]], AObj.rows false 3 [[iqQG 0, iqQG 0, AVal.fsl true 0 [] (some 0)]], AObj.rows true 2 [[AVal.str w0, AVal.str w0]], AObj.miter (some 1) k se k]) ([]) (tr 2 ++ (((List.all (gms us) fun p => keyKind Tryd.prog 9 (Prod.fst p)) = true) :: (tr 22 ++ [])))) followed (by kernel_rfl) (allP_of (trC 2 ⟨h1, (trC 22 trivial)⟩)) (keepM 97 [3, 4, 77]) ([0, 1, 2, 3, 4, 5, 6, 7, 8, 9]) (by kernel_rfl) (by kernel_rfl) (by kernel_rfl)

def eB_T (β : Nat → Nat) (ents : Ents) (off : Ents) (u : ByteArray) (bs : List Nat) (se : List Nat) (k : Nat) (b : Bool) (us : List ByteArray) (ps : List (List AVal)) (Q : AExit → Regs → AState → Prop) : Prop := ((List.all (gms us) fun p => keyKind Tryd.prog 9 (Prod.fst p)) = true) ∧ Q (AExit.normal) (mkR 97 [(3, AVal.ptr 6 9 0 0), (4, AVal.ptr 7 3 0 0), (77, AVal.ptr 9 1 0 0)]) ([AObj.rows false 2 [[AVal.map 1, AVal.map 2]], AObj.mpn true (hideE β ents) bs k, AObj.mp true off, AObj.rows false 2 [[AVal.map 4, AVal.slc b 5 2 0 (List.length ps) none]], AObj.mp true (adel (AVal.str u) (gms us)), AObj.rows true 2 ps, AObj.rows true 9 [[AVal.int IntKind.i64 7, AVal.str w0, AVal.str w0, AVal.str u, AVal.str w0, AVal.str w0, AVal.str w0, AVal.int IntKind.i64 0, AVal.int IntKind.i64 0]], AObj.rows false 3 [[AVal.int IntKind.i64 0, AVal.int IntKind.i64 0, AVal.fsl true 0 [] (some 0)]], AObj.rows true 2 [[AVal.str w0, AVal.str w0]], AObj.miter (some 1) k se k])
theorem eB_wp (β : Nat → Nat) (ents : Ents) (off : Ents) (u : ByteArray) (bs : List Nat) (se : List Nat) (k : Nat) (b : Bool) (us : List ByteArray) (ps : List (List AVal)) {Q : AExit → Regs → AState → Prop} (h : eB_T β ents off u bs se k b us ps Q) : ∃ e rg' σ', TripN Tryd.prog 10 (restOf oBody) (mkR 97 [(3, AVal.ptr 6 9 0 0), (4, AVal.ptr 7 3 0 0), (9, AVal.ptr 3 2 0 0), (77, AVal.ptr 9 1 0 0)]) (A10 β ents off bs se k u b us ps) e rg' σ' ∧ Q e rg' σ' :=
  ⟨_, _, _, eB_1 β ents off u bs se k b us ps (h.1), h.2⟩


end Go.MN
end

section
set_option linter.unusedVariables false
set_option linter.unusedSimpArgs false
set_option maxRecDepth 100000
namespace Go.MN
open Go Go.Abs Go.Proofs
abbrev em3 (L : Nat) : Nat → Nat := emb [0, 1, 2] L
theorem plug6 {S S' : AState} {L : Nat} (hS : S.length = L) (hS' : S'.length = L) (hL : 3 ≤ L) {x : Ch} (hge : ∀ j ∈ x.pl, 3 ≤ j ∧ j < L) (npq : x.p ≠ x.q) (npr : x.p ≠ x.r) (nqr : x.q ≠ x.r) {a0 a1 a2 p' q' r' b0 b1 b2 : AObj} {lo lo' : AState}
    (h0 : renO (emb [0, 1, 2, x.p, x.q, x.r] L) a0 = renO (em3 L) b0) (h1 : renO (emb [0, 1, 2, x.p, x.q, x.r] L) a1 = renO (em3 L) b1) (h2 : renO (emb [0, 1, 2, x.p, x.q, x.r] L) a2 = renO (em3 L) b2)
    (hp : S'[x.p]? = some (renO (emb [0, 1, 2, x.p, x.q, x.r] L) p')) (hq : S'[x.q]? = some (renO (emb [0, 1, 2, x.p, x.q, x.r] L) q')) (hr : S'[x.r]? = some (renO (emb [0, 1, 2, x.p, x.q, x.r] L) r'))
    (ho : ∀ j, j < L → 3 ≤ j → j ∉ x.pl → S'[j]? = S[j]?) (hlo : lo.map (renO (emb [0, 1, 2, x.p, x.q, x.r] L)) = lo'.map (renO (em3 L))) :
    plug S [0, 1, 2, x.p, x.q, x.r] (a0 :: a1 :: a2 :: p' :: q' :: r' :: lo) = plug S' [0, 1, 2] (b0 :: b1 :: b2 :: lo') := by
  have gp := hge x.p (by simp [Ch.pl]); have gq := hge x.q (by simp [Ch.pl]); have gr := hge x.r (by simp [Ch.pl])
  have hnd : Go.Abs.nodupB [0, 1, 2, x.p, x.q, x.r] = true := by
    simp [Go.Abs.nodupB]; omega
  have hlt : ∀ j ∈ [0, 1, 2, x.p, x.q, x.r], j < S.length := fun j hj => by simp at hj; omega
  have hlt3 : ∀ j ∈ [0, 1, 2], j < S'.length := fun j hj => by simp at hj; omega
  have hl6 : [0, 1, 2, x.p, x.q, x.r].length ≤ (a0 :: a1 :: a2 :: p' :: q' :: r' :: lo).length := by simp
  have hl3 : [0, 1, 2].length ≤ (b0 :: b1 :: b2 :: lo').length := by simp
  have i6 := fun (i j : Nat) (o : AObj) (h : [0, 1, 2, x.p, x.q, x.r][i]? = some j) (h' : (a0 :: a1 :: a2 :: p' :: q' :: r' :: lo)[i]? = some o) => plug_in hnd hlt hl6 h h'
  have i3 := fun (i j : Nat) (o : AObj) (h : [0, 1, 2][i]? = some j) (h' : (b0 :: b1 :: b2 :: lo')[i]? = some o) => plug_in rfl hlt3 hl3 h h'
  rw [hS] at i6; rw [hS'] at i3
  refine List.ext_getElem? fun j => ?_
  rcases Nat.lt_or_ge j L with hj | hj
  · by_cases e0 : j = 0
    · subst e0; rw [i6 0 0 a0 rfl rfl, i3 0 0 b0 rfl rfl, h0]
    by_cases e1 : j = 1
    · subst e1; rw [i6 1 1 a1 rfl rfl, i3 1 1 b1 rfl rfl, h1]
    by_cases e2 : j = 2
    · subst e2; rw [i6 2 2 a2 rfl rfl, i3 2 2 b2 rfl rfl, h2]
    rw [plug_out (S := S') rfl hlt3 hl3 (by omega) (by simp; omega)]
    by_cases e3 : j = x.p
    · subst e3; rw [i6 3 x.p p' rfl rfl, hp]
    by_cases e4 : j = x.q
    · subst e4; rw [i6 4 x.q q' rfl rfl, hq]
    by_cases e5 : j = x.r
    · subst e5; rw [i6 5 x.r r' rfl rfl, hr]
    rw [plug_out hnd hlt hl6 (by omega) (by simp; omega), ho j hj (by omega) (by simp [Ch.pl]; omega)]
  · obtain ⟨d, rfl⟩ : ∃ d, j = L + d := ⟨j - L, by omega⟩
    have n6 := plug_new hnd hlt hl6 d
    have n3 := plug_new rfl hlt3 hl3 d
    rw [hS] at n6; rw [hS'] at n3
    rw [n6, n3]
    show Option.map _ ([a0, a1, a2, p', q', r'] ++ lo)[6 + d]? = Option.map _ ([b0, b1, b2] ++ lo')[3 + d]?
    rw [List.getElem?_append_right (by simp), List.getElem?_append_right (by simp)]
    have := congrArg (·[d]?) hlo
    simpa using this
theorem plug_set1 {S : AState} (hS : 3 ≤ S.length) (b0 b1 b1' b2 : AObj) (lo : AState) : (plug S [0, 1, 2] (b0 :: b1 :: b2 :: lo)).set 1 (renO (em3 S.length) b1') = plug S [0, 1, 2] (b0 :: b1' :: b2 :: lo) := by
  have hlt3 : ∀ j ∈ [0, 1, 2], j < S.length := fun j hj => by simp at hj; omega
  have hl : ∀ b, [0, 1, 2].length ≤ (b0 :: b :: b2 :: lo).length := fun b => by simp
  have i3 := fun (b : AObj) (i j : Nat) (o : AObj) (h : [0, 1, 2][i]? = some j) (h' : (b0 :: b :: b2 :: lo)[i]? = some o) => plug_in rfl hlt3 (hl b) h h'
  refine List.ext_getElem? fun j => ?_
  rw [List.getElem?_set]
  split
  · rename_i e; subst e
    rw [if_pos (by rw [plug_len rfl hlt3 (hl b1)]; omega), i3 b1' 1 1 b1' rfl rfl]
  · rename_i hj
    rcases Nat.lt_or_ge j S.length with hjl | hjl
    · by_cases e0 : j = 0
      · subst e0; rw [i3 b1 0 0 b0 rfl rfl, i3 b1' 0 0 b0 rfl rfl]
      by_cases e2 : j = 2
      · subst e2; rw [i3 b1 2 2 b2 rfl rfl, i3 b1' 2 2 b2 rfl rfl]
      rw [plug_out rfl hlt3 (hl b1) hjl (by simp; omega), plug_out rfl hlt3 (hl b1') hjl (by simp; omega)]
    · obtain ⟨d, rfl⟩ : ∃ d, j = S.length + d := ⟨j - S.length, by omega⟩
      rw [plug_new rfl hlt3 (hl b1) d, plug_new rfl hlt3 (hl b1') d]
      show Option.map _ ([b0, b1, b2] ++ lo)[3 + d]? = Option.map _ ([b0, b1', b2] ++ lo)[3 + d]?
      rw [List.getElem?_append_right (by simp), List.getElem?_append_right (by simp)]
      rfl
theorem plug_setN {S : AState} (hS : 3 ≤ S.length) (b0 b1 b2 l0 l1 l2 it it' : AObj) : (plug S [0, 1, 2] [b0, b1, b2, l0, l1, l2, it]).set (S.length + 3) (renO (em3 S.length) it') = plug S [0, 1, 2] [b0, b1, b2, l0, l1, l2, it'] := by
  have hlt3 : ∀ j ∈ [0, 1, 2], j < S.length := fun j hj => by simp at hj; omega
  have hl : ∀ it, [0, 1, 2].length ≤ [b0, b1, b2, l0, l1, l2, it].length := fun b => by simp
  have i3 := fun (it : AObj) (i j : Nat) (o : AObj) (h : [0, 1, 2][i]? = some j) (h' : [b0, b1, b2, l0, l1, l2, it][i]? = some o) => plug_in rfl hlt3 (hl it) h h'
  refine List.ext_getElem? fun j => ?_
  rw [List.getElem?_set]
  split
  · rename_i e; subst e
    rw [if_pos (by rw [plug_len rfl hlt3 (hl it)]; simp), plug_new rfl hlt3 (hl it') 3]
    rfl
  · rename_i hj
    rcases Nat.lt_or_ge j S.length with hjl | hjl
    · by_cases e0 : j = 0
      · subst e0; rw [i3 it 0 0 b0 rfl rfl, i3 it' 0 0 b0 rfl rfl]
      by_cases e1 : j = 1
      · subst e1; rw [i3 it 1 1 b1 rfl rfl, i3 it' 1 1 b1 rfl rfl]
      by_cases e2 : j = 2
      · subst e2; rw [i3 it 2 2 b2 rfl rfl, i3 it' 2 2 b2 rfl rfl]
      rw [plug_out rfl hlt3 (hl it) hjl (by simp; omega), plug_out rfl hlt3 (hl it') hjl (by simp; omega)]
    · obtain ⟨d, rfl⟩ : ∃ d, j = S.length + d := ⟨j - S.length, by omega⟩
      rw [plug_new rfl hlt3 (hl it) d, plug_new rfl hlt3 (hl it') d]
      match d with
      | 0 => rfl
      | 1 => rfl
      | 2 => rfl
      | 3 => exact absurd rfl hj
      | d + 4 => rw [List.getElem?_eq_none (by simp; omega), List.getElem?_eq_none (by simp; omega)]

abbrev Zs := List (Ch × Nat)
def gS (zs : Zs) (u : ByteArray) (se : List Nat) (j : Nat) : Option AObj := (zs.find? fun z => z.1.q == j && se.contains z.2).map fun z => .mp true (gms (z.1.us.erase u))
def Tn (T : AState) (zs : Zs) (u : ByteArray) (se : List Nat) : AState := T.mapIdx fun j o => (gS zs u se j).getD o
theorem Tn_len (T : AState) (zs : Zs) (u : ByteArray) (se : List Nat) : (Tn T zs u se).length = T.length := by simp [Tn]
theorem Tn_get (T : AState) (zs : Zs) (u : ByteArray) (se : List Nat) (j : Nat) : (Tn T zs u se)[j]? = (T[j]?).map fun o => (gS zs u se j).getD o := by
  unfold Tn; rw [List.getElem?_mapIdx]
theorem gS_none {zs : Zs} {u : ByteArray} {se : List Nat} {j : Nat} (h : ∀ z ∈ zs, z.1.q ≠ j) : gS zs u se j = none := by
  unfold gS
  rw [List.find?_eq_none.2 fun z hz => by simp [h z hz]]; rfl
theorem gS_nil (zs : Zs) (u : ByteArray) (j : Nat) : gS zs u [] j = none := by
  unfold gS
  rw [List.find?_eq_none.2 fun z hz => by simp]; rfl
theorem Tn_nil (T : AState) (zs : Zs) (u : ByteArray) : Tn T zs u [] = T := by
  refine List.ext_getElem? fun j => ?_
  rw [Tn_get, gS_nil]
  cases T[j]? <;> rfl
theorem find_one {zs : Zs} {p : Ch × Nat → Bool} {z : Ch × Nat} (hz : z ∈ zs) (hp : p z = true) (h1 : ∀ y ∈ zs, p y = true → y = z) : zs.find? p = some z := by
  cases h : zs.find? p with
  | none => exact absurd hp (by simpa using List.find?_eq_none.1 h z hz)
  | some y => rw [h1 y (List.mem_of_find?_eq_some h) (by simpa using List.find?_some h)]
theorem find_congr {p q : Ch × Nat → Bool} : ∀ {zs : Zs}, (∀ z ∈ zs, p z = q z) → zs.find? p = zs.find? q
  | [], _ => rfl
  | z :: zs, h => by rw [List.find?_cons, List.find?_cons, h z (by simp), find_congr fun y hy => h y (by simp [hy])]
theorem gS_ext {zs : Zs} {u : ByteArray} {se se' : List Nat} {j : Nat} (h : ∀ z ∈ zs, z.1.q = j → se.contains z.2 = se'.contains z.2) : gS zs u se j = gS zs u se' j := by
  unfold gS
  refine congrArg (Option.map _) (find_congr fun z hz => ?_)
  by_cases e : z.1.q = j
  · rw [h z hz e]
  · rw [show (z.1.q == j) = false from by simpa using e]; rfl
end Go.MN
end

section
set_option linter.unusedVariables false
set_option linter.unusedSimpArgs false
set_option maxRecDepth 100000
namespace Go.MN
open Go Go.Abs Go.Proofs
abbrev chs (zs : Zs) : List Ch := zs.map (·.1)
abbrev bths (zs : Zs) : List Nat := zs.map (·.2)
def SLo (T : AState) (zs : Zs) (u : ByteArray) (off : Ents) (k : Nat) (se : List Nat) (it : AObj) : AState :=
  (plug (Tn T zs u se) [0, 1, 2] (A7o (fun _ => 0) [] off (bths zs) k u it)).set 1 (.mpn false (entsOf (chs zs)) (bths zs) k)
theorem nodup_at {α β : Type} {f : α → β} : ∀ {l : List α}, (l.map f).Nodup → ∀ {a b}, a ∈ l → b ∈ l → f a = f b → a = b
  | [], _, a, b, h, _, _ => by cases h
  | x :: l, hn, a, b, ha, hb, e => by
    rw [List.map_cons, List.nodup_cons] at hn
    rcases List.mem_cons.1 ha with rfl | ha'
    · rcases List.mem_cons.1 hb with rfl | hb'
      · rfl
      · exact absurd (List.mem_map.2 ⟨b, hb', e.symm⟩) hn.1
    · rcases List.mem_cons.1 hb with rfl | hb'
      · exact absurd (List.mem_map.2 ⟨a, ha', e⟩) hn.1
      · exact nodup_at hn.2 ha' hb' e
section
variable {T : AState} {zs : Zs} {offs : List ByteArray} (hM : MT T (chs zs) offs)
include hM
theorem zlt : 3 ≤ T.length ∧ ∀ z ∈ zs, (∀ j ∈ z.1.pl, 3 ≤ j ∧ j < T.length) ∧ z.1.p ≠ z.1.q ∧ z.1.p ≠ z.1.r ∧ z.1.q ≠ z.1.r ∧ ∀ y ∈ zs, y ≠ z → ∀ j ∈ y.1.pl, j ∉ z.1.pl := by
  refine ⟨hM.lt.1, fun z hz => ?_⟩
  obtain ⟨l1, l2, rfl⟩ := List.append_of_mem hz
  have hM2 : MT T (l1.map (·.1) ++ [z.1] ++ l2.map (·.1)) offs := by simpa [chs] using hM
  obtain ⟨hge, npq, npr, nqr, hoth⟩ := hM2.one
  obtain ⟨q1, q2, q3⟩ := hM2.lt.2 z.1 (by simp)
  refine ⟨fun j hj => ⟨hge j hj, by simp [Ch.pl] at hj; omega⟩, npq, npr, nqr, fun y hy hne j hj => ?_⟩
  refine (hoth y.1 ?_ j hj).2
  simp only [List.mem_append, List.mem_cons] at hy
  rcases hy with hy | rfl | hy
  · exact List.mem_append.2 (.inl (List.mem_map.2 ⟨y, hy, rfl⟩))
  · exact absurd rfl hne
  · exact List.mem_append.2 (.inr (List.mem_map.2 ⟨y, hy, rfl⟩))
theorem SLo_len (u : ByteArray) (off : Ents) (k : Nat) (se : List Nat) (it : AObj) : (SLo T zs u off k se it).length = T.length + 4 := by
  have h := (zlt hM).1
  unfold SLo
  rw [List.length_set, plug_len rfl (fun j hj => by rw [Tn_len]; simp at hj; omega) (by simp), Tn_len]
  rfl
theorem SLo_it (u : ByteArray) (off : Ents) (k : Nat) (se : List Nat) (it : AObj) : (SLo T zs u off k se it)[T.length + 3]? = some (renO (em3 T.length) it) := by
  have h := (zlt hM).1
  unfold SLo
  rw [List.getElem?_set_ne (by omega)]
  have := plug_new (S := Tn T zs u se) (es := [0, 1, 2]) (σ' := A7o (fun _ => 0) [] off (bths zs) k u it) rfl (fun j hj => by rw [Tn_len]; simp at hj; omega) (by simp) 3
  rw [Tn_len] at this
  rw [this]; rfl
theorem SLo_map (u : ByteArray) (off : Ents) (k : Nat) (se : List Nat) (it : AObj) : (SLo T zs u off k se it)[1]? = some (.mpn false (entsOf (chs zs)) (bths zs) k) := by
  have hl := SLo_len hM u off k se it
  unfold SLo at hl ⊢
  rw [List.length_set] at hl
  rw [List.getElem?_set, if_pos rfl, if_pos (by omega)]
theorem SLo_turn (u : ByteArray) (off : Ents) (k : Nat) (se : List Nat) (it it' : AObj) : (SLo T zs u off k se it).set (T.length + 3) (renO (em3 T.length) it') = SLo T zs u off k se it' := by
  have h := (zlt hM).1
  have := plug_setN (S := Tn T zs u se) (by rw [Tn_len]; exact h) (.rows false 2 [[.map 1, .map 2]]) (.mpn true (hideE (fun _ => 0) []) (bths zs) k) (.mp true off) (opR u) (.rows false 3 [[.int .i64 0, .int .i64 0, .fsl true 0 [] (some 0)]]) (.rows true 2 [[.str w0, .str w0]]) it it'
  rw [Tn_len] at this
  unfold SLo
  rw [List.set_comm _ _ (by omega), this]
theorem SLo_hid (u : ByteArray) (off : Ents) (k : Nat) (se : List Nat) (it : AObj) (β : Nat → Nat) : (SLo T zs u off k se it).set 1 (.mpn true (hideE β (entsOf (chs zs))) (bths zs) k) = plug (Tn T zs u se) [0, 1, 2] (A7o β (entsOf (chs zs)) off (bths zs) k u it) := by
  have h := (zlt hM).1
  have := plug_set1 (S := Tn T zs u se) (by rw [Tn_len]; exact h) (.rows false 2 [[.map 1, .map 2]]) (.mpn true (hideE (fun _ => 0) []) (bths zs) k) (.mpn true (hideE β (entsOf (chs zs))) (bths zs) k) (.mp true off) [opR u, .rows false 3 [[.int .i64 0, .int .i64 0, .fsl true 0 [] (some 0)]], .rows true 2 [[.str w0, .str w0]], it]
  unfold SLo
  rw [List.set_set]
  exact this
theorem hideOk_ents {N : Nat} (hN : N = T.length) : HideOk N ((chs zs).map (·.p)) (entsOf (chs zs)) := by
  refine ⟨fun e he id es i j h => ?_, fun e he => ?_⟩
  · obtain ⟨x, hx, rfl⟩ := List.mem_map.1 he
    cases h
    exact ⟨by rw [hN]; exact (hM.lt.2 x hx).1, List.mem_map.2 ⟨x, hx, rfl⟩⟩
  · obtain ⟨x, hx, rfl⟩ := List.mem_map.1 he
    exact ⟨rfl, rfl⟩
theorem ids_lt {N : Nat} (hN : N = T.length) : ∀ id ∈ (chs zs).map (·.p), id < N := fun id hid => by
  obtain ⟨x, hx, rfl⟩ := List.mem_map.1 hid
  rw [hN]; exact (hM.lt.2 x hx).1
theorem SLo_agree (u : ByteArray) (off : Ents) (k : Nat) (se si : List Nat) {rg : Regs} (h77 : rg.getD 77 .any = .ptr (T.length + 3) 1 0 0) (F : FS) (w : World) (ρ : RMap) (a : Act) (r : Rel ρ F (SLo T zs u off k se (.miter (some 1) k si k)) w) (ha : ARel F w ρ rg a) : ∀ id ∈ (chs zs).map (·.p), ∃ b, ρ id = some b := fun id hid => by
  obtain ⟨x, hx, rfl⟩ := List.mem_map.1 hid
  have hl : 77 < rg.length := by
    rcases Nat.lt_or_ge 77 rg.length with h | h
    · exact h
    · rw [List.getD_eq_getElem?_getD, List.getElem?_eq_none h] at h77; cases h77
  have hg : rg[77]? = some (.ptr (T.length + 3) 1 0 0) := by
    rw [List.getD_eq_getElem?_getD, List.getElem?_eq_getElem hl] at h77
    rw [List.getElem?_eq_getElem hl]; exact congrArg some h77
  obtain ⟨b, hb, _⟩ := (ha.val 77 _ _ hg (Array.getElem?_eq_getElem (by rw [← ha.size]; exact hl))).ptr_inv
  obtain ⟨m, hm, _⟩ := r.obj _ _ _ (SLo_it hM u off k se (.miter (some 1) k si k)) hb
  have hm : ρ 1 = some m := hm
  obtain ⟨es, _, _, _, h4⟩ := r.obj _ _ _ (SLo_map hM u off k se (.miter (some 1) k si k)) hm
  obtain ⟨i, hi⟩ := List.getElem?_of_mem hx
  obtain ⟨e, _, _, hv⟩ := h4 i (ky x.s x.c) (.ptr x.p 2 0 0) (by unfold entsOf; rw [List.getElem?_map, hi]; rfl)
  obtain ⟨b2, hb2, _⟩ := hv.ptr_inv
  exact ⟨b2, hb2⟩
end
end Go.MN
end

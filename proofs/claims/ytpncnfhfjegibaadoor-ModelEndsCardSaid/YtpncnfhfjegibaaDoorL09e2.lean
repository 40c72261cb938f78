import Derived.Shelf.Sort.Plain
import Derived.Test.YtpncnfhfjegibaaDoorL09e1
section
set_option linter.unusedVariables false
set_option maxRecDepth 100000
namespace Go.MN
open Go Go.Abs Go.Proofs
abbrev HO (at_ off mem : Ents) (bs : List Nat) (c : Nat) (seen : List Nat) (u : ByteArray) (ps : List (List AVal)) (b : Bool) : AState := [.rows false 2 [[.map 1, .map 2]], .mpn false at_ bs c, .mp true off, .rows false 2 [[.map 4, .slc b 5 2 0 ps.length none]], .mp true mem, .rows true 2 ps, .rows true 9 [[.int .i64 7, .str w0, .str w0, .str u, .str w0, .str w0, .str w0, .int .i64 0, .int .i64 0]], .rows false 3 [[.int .i64 0, .int .i64 0, .fsl true 0 [] (some 0)]], .miter (some 1) c seen c]
abbrev H6n (at_ off mem : Ents) (bs : List Nat) (c : Nat) (ps : List (List AVal)) (b : Bool) : AState := [.rows false 2 [[.map 1, .map 2]], .mpn false at_ bs c, .mp true off, .rows false 2 [[.map 4, .slc b 5 2 0 ps.length none]], .mp true mem, .rows true 2 ps]
abbrev RO : Regs := mkR 97 [(3, .ptr 6 9 0 0), (4, .ptr 7 3 0 0), (77, .ptr 8 1 0 0)]
abbrev iqPF : Int → AVal := AVal.int IntKind.i64
open Go.Abs.AVal (str agg ptr slc fsl tuple nilp)
open Go.Abs.Dec (br use)
open Go.Abs.AExit (normal)
open Go.Abs.AObj (mp mq dead)
open Go.Abs.AVal (bool tt map)
open Go.IntKind (u8 i64 u64)
open Go.Abs.AObj (gh)
abbrev rzPF : Bool → Nat → List (List AVal) → AObj := AObj.rows
noncomputable abbrev pgPF : Program := Tryd.prog
abbrev z0PF (pre : Ents) (s : ByteArray) (c : ByteArray) (post : Ents) (off : Ents) (f : Bool) (ps : List (List AVal)) (us : List ByteArray) (bs : List Nat) (k : Nat) : AState := [AObj.rows false 2 [[map 1, map 2]], AObj.mq pre [(agg [str s, str c], ptr 3 2 0 0)] post, AObj.mp true off, AObj.rows false 2 [[map 4, slc f 5 2 0 (List.length ps) none]], AObj.mpn true (List.map gm us) bs k, AObj.rows true 2 ps]
abbrev z2PF (s : ByteArray) (y : ByteArray) (b : Nat) (c : Nat) (f : Bool) (ps : List (List AVal)) (mem : Ents) : AState := [AObj.rows false 2 [[map 1, map 2]], AObj.mpn false [(agg [str s, str y], ptr 3 2 0 0)] [b] c, AObj.mp true [], AObj.rows false 2 [[map 4, slc f 5 2 0 (List.length ps) none]], AObj.mp true mem, AObj.rows true 2 ps]
abbrev z3PF (u : ByteArray) : List AVal := [iqPF 7, str w0, str w0, str u, str w0, str w0, str w0, iqPF 0, iqPF 0]
abbrev z4PF (s : ByteArray) (y : ByteArray) (b : Nat) (c : Nat) (u : ByteArray) (f : Bool) (ps : List (List AVal)) (mem : Ents) : AState := [AObj.rows false 2 [[map 1, map 2]], AObj.mpn false [(agg [str s, str y], ptr 3 2 0 0)] [b] c, AObj.mp true [(str u, tt true)], AObj.rows false 2 [[map 4, slc f 5 2 0 (List.length ps) none]], AObj.mp true (adel (str u) mem), AObj.rows true 2 ps, AObj.rows true 9 [(z3PF u)], AObj.rows false 3 [[iqPF 0, iqPF 0, fsl true 0 [] (some 0)]], AObj.miter (some 1) c [b] c]
abbrev z5PF (pre : Ents) (s : ByteArray) (c : ByteArray) (post : Ents) (off : Ents) (f : Bool) (ps : List (List AVal)) (us : List ByteArray) (bs : List Nat) (k : Nat) : AState := [AObj.rows false 2 [[map 1, map 2]], AObj.mq pre [(agg [str s, str c], ptr 3 2 0 0)] post, AObj.mp true off, AObj.rows false 2 [[map 4, slc f 5 2 0 (List.length ps) none]], AObj.mpn true (List.map gm us) bs k, AObj.rows true 2 ps, AObj.bag 1 (List.map (fun u => [str u]) us), AObj.dead]
abbrev z6PF (s : ByteArray) (y : ByteArray) (b : Nat) (c : Nat) (u : ByteArray) (f : Bool) (ps : List (List AVal)) (mem : Ents) : AState := [AObj.rows false 2 [[map 1, map 2]], AObj.mpn false [(agg [str s, str y], ptr 3 2 0 0)] [b] c, AObj.mp true [(str u, tt true)], AObj.rows false 2 [[map 4, slc f 5 2 0 (List.length ps) none]], AObj.mp true mem, AObj.rows true 2 ps, AObj.rows true 9 [(z3PF u)], AObj.rows false 3 [[iqPF 0, iqPF 0, fsl true 0 [] (some 0)]], AObj.miter (some 1) c [] c]
abbrev z7PF (s : ByteArray) (y : ByteArray) (b : Nat) (c : Nat) (off : Ents) (f : Bool) (ps : List (List AVal)) (u : ByteArray) (mem : Ents) : AState := [AObj.rows false 2 [[map 1, map 2]], AObj.mpn false [(agg [str s, str y], ptr 3 2 0 0)] [b] c, AObj.mp true off, AObj.rows false 2 [[map 4, slc f 5 2 0 (List.length ps) none]], AObj.mp true (adel (str u) mem), AObj.rows true 2 ps, AObj.rows true 9 [(z3PF u)], AObj.rows false 3 [[iqPF 0, iqPF 0, fsl true 0 [] (some 0)]], AObj.miter (some 1) c [b] c]
abbrev z8PF (s : ByteArray) (y : ByteArray) (b : Nat) (c : Nat) (off : Ents) (f : Bool) (ps : List (List AVal)) (mem : Ents) (u : ByteArray) : AState := [AObj.rows false 2 [[map 1, map 2]], AObj.mpn false [(agg [str s, str y], ptr 3 2 0 0)] [b] c, AObj.mp true off, AObj.rows false 2 [[map 4, slc f 5 2 0 (List.length ps) none]], AObj.mp true mem, AObj.rows true 2 ps, AObj.rows true 9 [(z3PF u)], AObj.rows false 3 [[iqPF 0, iqPF 0, fsl true 0 [] (some 0)]], AObj.miter (some 1) c [b] c]
abbrev z9PF (s : ByteArray) (y : ByteArray) (b : Nat) (c : Nat) (f : Bool) (ps : List (List AVal)) (mem : Ents) (u : ByteArray) : AState := [AObj.rows false 2 [[map 1, map 2]], AObj.mpn false [(agg [str s, str y], ptr 3 2 0 0)] [b] c, AObj.mp true [], AObj.rows false 2 [[map 4, slc f 5 2 0 (List.length ps) none]], AObj.mp true mem, AObj.rows true 2 ps, AObj.rows true 9 [(z3PF u)], AObj.rows false 3 [[iqPF 0, iqPF 0, fsl true 0 [] (some 0)]]]
abbrev z10PF (pre : Ents) (s : ByteArray) (c : ByteArray) (post : Ents) (off : Ents) (f : Bool) (ps : List (List AVal)) (us : List ByteArray) (bs : List Nat) (k : Nat) : AState := [AObj.rows false 2 [[map 1, map 2]], AObj.mq pre [(agg [str s, str c], ptr 3 2 0 0)] post, AObj.mp true off, AObj.rows false 2 [[map 4, slc f 5 2 0 (List.length ps) none]], AObj.mpn true (List.map gm us) bs k, AObj.rows true 2 ps, AObj.rows true 1 [], AObj.miter (some 4) k [] k]
abbrev z11PF (pre : Ents) (s : ByteArray) (c : ByteArray) (post : Ents) (off : Ents) (f : Bool) (ps : List (List AVal)) (us : List ByteArray) (bs : List Nat) (k : Nat) (rs : List (List AVal)) (seen : List Nat) : AState := [AObj.rows false 2 [[map 1, map 2]], AObj.mq pre [(agg [str s, str c], ptr 3 2 0 0)] post, AObj.mp true off, AObj.rows false 2 [[map 4, slc f 5 2 0 (List.length ps) none]], AObj.mpn true (List.map gm us) bs k, AObj.rows true 2 ps, AObj.rows true 1 rs, AObj.miter (some 4) k seen k]
abbrev z12PF (s : ByteArray) (y : ByteArray) (bs : List Nat) (c : Nat) (off : Ents) (b : Bool) (ps : List (List AVal)) (mem : Ents) : AState := [AObj.rows false 2 [[map 1, map 2]], AObj.mpn false [(agg [str s, str y], ptr 3 2 0 0)] bs c, AObj.mp true off, AObj.rows false 2 [[map 4, slc b 5 2 0 (List.length ps) none]], AObj.mp true mem, AObj.rows true 2 ps]
abbrev z13PF (rs : List (List AVal)) (k : Nat) (seen : List Nat) : AState := [AObj.rows true 1 rs, AObj.miter (some 4) k seen k]
theorem offB_1 (s : ByteArray) (y : ByteArray) (off : Ents) (mem : Ents) (b : Nat) (c : Nat) (u : ByteArray) (ps : List (List AVal)) (f : Bool)
    (h1 : (List.all mem fun p => keyKind pgPF 9 (Prod.fst p)) = true)
    (h2 : Option.getD (entV [(agg [str s, str y], ptr 3 2 0 0)] [b] [b]) AVal.any = tuple [agg [str s, str y], ptr 3 2 0 0])
    (h3 : Option.isSome (entV [(agg [str s, str y], ptr 3 2 0 0)] [b] [b]) = true) :
    TripN pgPF 6 (restOf (loopNo Tryd.f13 0)) (mkR 97 [(3, ptr 6 9 0 0), (4, ptr 7 3 0 0), (77, ptr 8 1 0 0), (79, tt true)]) (HO [(ky s y, ptr 3 2 0 0)] off mem [b] c [b] u ps f) (normal) (mkR 97 [(3, ptr 6 9 0 0), (4, ptr 7 3 0 0), (77, ptr 8 1 0 0)]) ((z7PF s y b c off f ps u mem)) :=
  evalT (st := St.mk (mkR 97 [(3, ptr 6 9 0 0), (4, ptr 7 3 0 0), (77, ptr 8 1 0 0), (79, tt true)]) (HO [(ky s y, ptr 3 2 0 0)] off mem [b] c [b] u ps f) ([Dec.rw (tuple [ky s y, ptr 3 2 0 0])]) []) (st' := St.mk (mkR 97 [(3, ptr 6 9 0 0), (4, ptr 7 3 0 0), (9, ptr 3 2 0 0), (77, ptr 8 1 0 0), (79, tt true), (80, tuple [agg [str s, str y], ptr 3 2 0 0]), (81, ptr 3 2 0 0), (82, ptr 3 2 0 0), (83, ptr 3 2 0 0), (84, ptr 3 2 0 0), (85, map 4), (86, ptr 6 9 0 3), (87, str u)]) ((z7PF s y b c off f ps u mem)) ([]) (tr 2 ++ ((_) :: (tr 22 ++ ((_) :: ((_) :: ((c = c) :: []))))))) followed (by kernel_rfl) (allP_of (trC 2 ⟨h1, (trC 22 ⟨h2, ⟨h3, ⟨rfl, trivial⟩⟩⟩)⟩)) (keepM 97 [3, 4, 77]) ([0, 1, 2, 3, 4, 5, 6, 7, 8]) (by kernel_rfl) (by kernel_rfl) (by kernel_rfl)

def offB_T (s : ByteArray) (y : ByteArray) (off : Ents) (mem : Ents) (b : Nat) (c : Nat) (u : ByteArray) (ps : List (List AVal)) (f : Bool) (Q : AExit → Regs → AState → Prop) : Prop := (Option.isSome (entV [(AVal.agg [AVal.str s, AVal.str y], AVal.ptr 3 2 0 0)] [b] [b]) = true) ∧ (Option.getD (entV [(AVal.agg [AVal.str s, AVal.str y], AVal.ptr 3 2 0 0)] [b] [b]) AVal.any = AVal.tuple [AVal.agg [AVal.str s, AVal.str y], AVal.ptr 3 2 0 0]) ∧ ((List.all mem fun p => keyKind Tryd.prog 9 (Prod.fst p)) = true) ∧ Q (AExit.normal) (mkR 97 [(3, AVal.ptr 6 9 0 0), (4, AVal.ptr 7 3 0 0), (77, AVal.ptr 8 1 0 0)]) ([AObj.rows false 2 [[AVal.map 1, AVal.map 2]], AObj.mpn false [(AVal.agg [AVal.str s, AVal.str y], AVal.ptr 3 2 0 0)] [b] c, AObj.mp true off, AObj.rows false 2 [[AVal.map 4, AVal.slc f 5 2 0 (List.length ps) none]], AObj.mp true (adel (AVal.str u) mem), AObj.rows true 2 ps, AObj.rows true 9 [[AVal.int IntKind.i64 7, AVal.str w0, AVal.str w0, AVal.str u, AVal.str w0, AVal.str w0, AVal.str w0, AVal.int IntKind.i64 0, AVal.int IntKind.i64 0]], AObj.rows false 3 [[AVal.int IntKind.i64 0, AVal.int IntKind.i64 0, AVal.fsl true 0 [] (some 0)]], AObj.miter (some 1) c [b] c])
theorem offB_wp (s : ByteArray) (y : ByteArray) (off : Ents) (mem : Ents) (b : Nat) (c : Nat) (u : ByteArray) (ps : List (List AVal)) (f : Bool) {Q : AExit → Regs → AState → Prop} (h : offB_T s y off mem b c u ps f Q) : ∃ e rg' σ', TripN pgPF 6 (restOf (loopNo Tryd.f13 0)) (mkR 97 [(3, ptr 6 9 0 0), (4, ptr 7 3 0 0), (77, ptr 8 1 0 0), (79, tt true)]) (HO [(ky s y, ptr 3 2 0 0)] off mem [b] c [b] u ps f) e rg' σ' ∧ Q e rg' σ' :=
  ⟨_, _, _, offB_1 s y off mem b c u ps f (h.2.2.1) (h.2.1) (h.1), h.2.2.2⟩


theorem offX_1 (s : ByteArray) (y : ByteArray) (off : Ents) (mem : Ents) (b : Nat) (c : Nat) (u : ByteArray) (ps : List (List AVal)) (f : Bool) :
    TripN pgPF 6 (restOf (loopNo Tryd.f13 0)) (mkR 97 [(3, ptr 6 9 0 0), (4, ptr 7 3 0 0), (77, ptr 8 1 0 0), (79, tt false)]) (HO [(ky s y, ptr 3 2 0 0)] off mem [b] c [b] u ps f) (AExit.exit 1) (mkR 97 [(3, ptr 6 9 0 0), (4, ptr 7 3 0 0), (77, ptr 8 1 0 0)]) ((z8PF s y b c off f ps mem u)) :=
  evalT (st := St.mk (mkR 97 [(3, ptr 6 9 0 0), (4, ptr 7 3 0 0), (77, ptr 8 1 0 0), (79, tt false)]) (HO [(ky s y, ptr 3 2 0 0)] off mem [b] c [b] u ps f) ([]) []) (st' := St.mk (mkR 97 [(3, ptr 6 9 0 0), (4, ptr 7 3 0 0), (77, ptr 8 1 0 0), (79, tt false)]) ((z8PF s y b c off f ps mem u)) ([]) []) followed (by kernel_rfl) (allP_of trivial) (keepM 97 [3, 4, 77]) ([0, 1, 2, 3, 4, 5, 6, 7, 8]) (by kernel_rfl) (by kernel_rfl) (by kernel_rfl)

def offX_T (s : ByteArray) (y : ByteArray) (off : Ents) (mem : Ents) (b : Nat) (c : Nat) (u : ByteArray) (ps : List (List AVal)) (f : Bool) (Q : AExit → Regs → AState → Prop) : Prop := Q (AExit.exit 1) (mkR 97 [(3, AVal.ptr 6 9 0 0), (4, AVal.ptr 7 3 0 0), (77, AVal.ptr 8 1 0 0)]) ([AObj.rows false 2 [[AVal.map 1, AVal.map 2]], AObj.mpn false [(AVal.agg [AVal.str s, AVal.str y], AVal.ptr 3 2 0 0)] [b] c, AObj.mp true off, AObj.rows false 2 [[AVal.map 4, AVal.slc f 5 2 0 (List.length ps) none]], AObj.mp true mem, AObj.rows true 2 ps, AObj.rows true 9 [[AVal.int IntKind.i64 7, AVal.str w0, AVal.str w0, AVal.str u, AVal.str w0, AVal.str w0, AVal.str w0, AVal.int IntKind.i64 0, AVal.int IntKind.i64 0]], AObj.rows false 3 [[AVal.int IntKind.i64 0, AVal.int IntKind.i64 0, AVal.fsl true 0 [] (some 0)]], AObj.miter (some 1) c [b] c])
theorem offX_wp (s : ByteArray) (y : ByteArray) (off : Ents) (mem : Ents) (b : Nat) (c : Nat) (u : ByteArray) (ps : List (List AVal)) (f : Bool) {Q : AExit → Regs → AState → Prop} (h : offX_T s y off mem b c u ps f Q) : ∃ e rg' σ', TripN pgPF 6 (restOf (loopNo Tryd.f13 0)) (mkR 97 [(3, ptr 6 9 0 0), (4, ptr 7 3 0 0), (77, ptr 8 1 0 0), (79, tt false)]) (HO [(ky s y, ptr 3 2 0 0)] off mem [b] c [b] u ps f) e rg' σ' ∧ Q e rg' σ' :=
  ⟨_, _, _, offX_1 s y off mem b c u ps f, h⟩


theorem dO_1 (s : ByteArray) (y : ByteArray) (u : ByteArray) (ps : List (List AVal)) (mem : Ents) (f : Bool) (b : Nat) (c : Nat)
    (h1 : TripN pgPF 6 (Code.loop (loopNo Tryd.f13 0)) (mkR 97 [(3, ptr 6 9 0 0), (4, ptr 7 3 0 0), (77, ptr 8 1 0 0)]) (z6PF s y b c u f ps mem) (AExit.exit 1) (mkR 97 [(3, ptr 6 9 0 0), (4, ptr 7 3 0 0), (77, ptr 8 1 0 0)]) (z4PF s y b c u f ps mem))
    (h2 : tuple [Option.getD (afind (agg [str w0, str w0]) [(agg [str s, str y], ptr 3 2 0 0)]) nilp, tt (Option.isSome (afind (agg [str w0, str w0]) [(agg [str s, str y], ptr 3 2 0 0)]))] = tuple [nilp, tt false])
    (h3 : FOk pgPF 21 [agg (z3PF u)] [] (iqPF 0) [])
    (h4 : FOk pgPF 27 [ptr 0 2 0 0] (z2PF s y b c f ps mem) (bool true) (z2PF s y b c f ps mem)) :
    FOk pgPF 13 ([ptr 0 2 0 0, opw 7 w0 w0 u w0 w0 w0 0 0]) (H6n [(ky s y, ptr 3 2 0 0)] [] mem [b] c ps f) (agg [iqPF 0, iqPF 0, fsl true 2 [] none]) ([rzPF false 2 [[map 1, map 2]], AObj.mpn false [(agg [str s, str y], ptr 3 2 0 0)] [b] c, mp true [(str u, tt true)], rzPF false 2 [[map 4, slc f 5 2 0 (List.length ps) none]], mp true (adel (str u) mem), rzPF true 2 ps]) :=
  (evalF_ok followed Tryd.func13 (by kernel_rfl) (show evalF pgPF Tryd.f13 ([ptr 0 2 0 0, opw 7 w0 w0 u w0 w0 w0 0 0]) (H6n [(ky s y, ptr 3 2 0 0)] [] mem [b] c ps f) ([use [0, 1, 2, 3, 4, 5] [ptr 0 2 0 0] (z2PF s y b c f ps mem) (bool true) (z2PF s y b c f ps mem), br false, use [] [agg (z3PF u)] [] (iqPF 0) [], br false, Dec.rw (tuple [nilp, tt false]), br false, br false, br true, Dec.rw (bool false), br false, Dec.compact (keepM 97 [3, 4, 77]) [0, 1, 2, 3, 4, 5, 6, 7, 9], Dec.loop (AExit.exit 1) RO (HO [(ky s y, ptr 3 2 0 0)] [gm u] (adel (str u) mem) [b] c [b] u ps f)]) = .ok (FRes.mk (agg [iqPF 0, iqPF 0, fsl true 2 [] none]) ((z4PF s y b c u f ps mem)) (tr 4 ++ ((Owed.loop (owed pgPF 6) (loopNo Tryd.f13 0) (mkR 97 [(3, ptr 6 9 0 0), (4, ptr 7 3 0 0), (77, ptr 8 1 0 0)]) (z6PF s y b c u f ps mem) (AExit.exit 1) (mkR 97 [(3, ptr 6 9 0 0), (4, ptr 7 3 0 0), (77, ptr 8 1 0 0)]) (z4PF s y b c u f ps mem)) :: (tr 27 ++ ((false = false) :: (tr 2 ++ ((bool false = bool false) :: (tr 25 ++ ((false = false) :: ((false = false) :: (tr 15 ++ ((_) :: (tr 29 ++ ((false = false) :: ((Owed.use (owed pgPF 6) 21 [] [agg (z3PF u)] (z9PF s y b c f ps mem u) [agg (z3PF u)] [] (iqPF 0) []) :: (tr 3 ++ ((false = false) :: ((Owed.use (owed pgPF 6) 27 [0, 1, 2, 3, 4, 5] [ptr 0 2 0 0] (z9PF s y b c f ps mem u) [ptr 0 2 0 0] (z2PF s y b c f ps mem) (bool true) (z2PF s y b c f ps mem)) :: [])))))))))))))))))) by kernel_rfl) (allP_of (trC 4 ⟨h1, (trC 27 ⟨rfl, (trC 2 ⟨rfl, (trC 25 ⟨rfl, ⟨rfl, (trC 15 ⟨h2, (trC 29 ⟨rfl, ⟨⟨h3, rfl, rfl, rfl⟩, (trC 3 ⟨rfl, ⟨⟨h4, rfl, rfl, rfl⟩, trivial⟩⟩)⟩⟩)⟩)⟩⟩)⟩)⟩)⟩))).move ([0, 1, 2, 3, 4, 5]) (by kernel_rfl) (by kernel_rfl) (by kernel_rfl)

def dO_T (s : ByteArray) (y : ByteArray) (u : ByteArray) (ps : List (List AVal)) (mem : Ents) (f : Bool) (b : Nat) (c : Nat) (Q : AVal → AState → Prop) : Prop := (FOk Tryd.prog 27 [AVal.ptr 0 2 0 0] [AObj.rows false 2 [[AVal.map 1, AVal.map 2]], AObj.mpn false [(AVal.agg [AVal.str s, AVal.str y], AVal.ptr 3 2 0 0)] [b] c, AObj.mp true [], AObj.rows false 2 [[AVal.map 4, AVal.slc f 5 2 0 (List.length ps) none]], AObj.mp true mem, AObj.rows true 2 ps] (AVal.bool true) [AObj.rows false 2 [[AVal.map 1, AVal.map 2]], AObj.mpn false [(AVal.agg [AVal.str s, AVal.str y], AVal.ptr 3 2 0 0)] [b] c, AObj.mp true [], AObj.rows false 2 [[AVal.map 4, AVal.slc f 5 2 0 (List.length ps) none]], AObj.mp true mem, AObj.rows true 2 ps]) ∧ (FOk Tryd.prog 21 [AVal.agg [AVal.int IntKind.i64 7, AVal.str w0, AVal.str w0, AVal.str u, AVal.str w0, AVal.str w0, AVal.str w0, AVal.int IntKind.i64 0, AVal.int IntKind.i64 0]] [] (AVal.int IntKind.i64 0) []) ∧ (AVal.tuple [Option.getD (afind (AVal.agg [AVal.str w0, AVal.str w0]) [(AVal.agg [AVal.str s, AVal.str y], AVal.ptr 3 2 0 0)]) AVal.nilp, AVal.tt (Option.isSome (afind (AVal.agg [AVal.str w0, AVal.str w0]) [(AVal.agg [AVal.str s, AVal.str y], AVal.ptr 3 2 0 0)]))] = AVal.tuple [AVal.nilp, AVal.tt false]) ∧ (TripN Tryd.prog 6 (Code.loop (loopNo Tryd.f13 0)) (mkR 97 [(3, AVal.ptr 6 9 0 0), (4, AVal.ptr 7 3 0 0), (77, AVal.ptr 8 1 0 0)]) [AObj.rows false 2 [[AVal.map 1, AVal.map 2]], AObj.mpn false [(AVal.agg [AVal.str s, AVal.str y], AVal.ptr 3 2 0 0)] [b] c, AObj.mp true [(AVal.str u, AVal.tt true)], AObj.rows false 2 [[AVal.map 4, AVal.slc f 5 2 0 (List.length ps) none]], AObj.mp true mem, AObj.rows true 2 ps, AObj.rows true 9 [[AVal.int IntKind.i64 7, AVal.str w0, AVal.str w0, AVal.str u, AVal.str w0, AVal.str w0, AVal.str w0, AVal.int IntKind.i64 0, AVal.int IntKind.i64 0]], AObj.rows false 3 [[AVal.int IntKind.i64 0, AVal.int IntKind.i64 0, AVal.fsl true 0 [] (some 0)]], AObj.miter (some 1) c [] c] (AExit.exit 1) (mkR 97 [(3, AVal.ptr 6 9 0 0), (4, AVal.ptr 7 3 0 0), (77, AVal.ptr 8 1 0 0)]) [AObj.rows false 2 [[AVal.map 1, AVal.map 2]], AObj.mpn false [(AVal.agg [AVal.str s, AVal.str y], AVal.ptr 3 2 0 0)] [b] c, AObj.mp true [(AVal.str u, AVal.tt true)], AObj.rows false 2 [[AVal.map 4, AVal.slc f 5 2 0 (List.length ps) none]], AObj.mp true (adel (AVal.str u) mem), AObj.rows true 2 ps, AObj.rows true 9 [[AVal.int IntKind.i64 7, AVal.str w0, AVal.str w0, AVal.str u, AVal.str w0, AVal.str w0, AVal.str w0, AVal.int IntKind.i64 0, AVal.int IntKind.i64 0]], AObj.rows false 3 [[AVal.int IntKind.i64 0, AVal.int IntKind.i64 0, AVal.fsl true 0 [] (some 0)]], AObj.miter (some 1) c [b] c]) ∧ Q (AVal.agg [AVal.int IntKind.i64 0, AVal.int IntKind.i64 0, AVal.fsl true 2 [] none]) ([AObj.rows false 2 [[AVal.map 1, AVal.map 2]], AObj.mpn false [(AVal.agg [AVal.str s, AVal.str y], AVal.ptr 3 2 0 0)] [b] c, AObj.mp true [(AVal.str u, AVal.tt true)], AObj.rows false 2 [[AVal.map 4, AVal.slc f 5 2 0 (List.length ps) none]], AObj.mp true (adel (AVal.str u) mem), AObj.rows true 2 ps])
theorem dO_wp (s : ByteArray) (y : ByteArray) (u : ByteArray) (ps : List (List AVal)) (mem : Ents) (f : Bool) (b : Nat) (c : Nat) {Q : AVal → AState → Prop} (h : dO_T s y u ps mem f b c Q) : ∃ r σ', FOk pgPF 13 ([ptr 0 2 0 0, opw 7 w0 w0 u w0 w0 w0 0 0]) (H6n [(ky s y, ptr 3 2 0 0)] [] mem [b] c ps f) r σ' ∧ Q r σ' :=
  ⟨_, _, dO_1 s y u ps mem f b c (h.2.2.2.1) (h.2.2.1) (h.2.1) (h.1), h.2.2.2.2⟩


theorem given6e_1 (s : ByteArray) (y : ByteArray) (off : Ents) (mem : Ents) (bs : List Nat) (c : Nat) (ps : List (List AVal)) (b : Bool) :
    FOk pgPF 27 ([ptr 0 2 0 0]) (H6n [(ky s y, ptr 3 2 0 0)] off mem bs c ps b) (bool true) ((z12PF s y bs c off b ps mem)) :=
  (evalF_ok followed Tryd.func27 (by kernel_rfl) (show evalF pgPF Tryd.f27 ([ptr 0 2 0 0]) (H6n [(ky s y, ptr 3 2 0 0)] off mem bs c ps b) ([br true]) = .ok (FRes.mk (bool true) ((z12PF s y bs c off b ps mem)) (tr 3 ++ [])) by kernel_rfl) (allP_of (trC 3 trivial))).move ([0, 1, 2, 3, 4, 5]) (by kernel_rfl) (by kernel_rfl) (by kernel_rfl)

def given6e_T (s : ByteArray) (y : ByteArray) (off : Ents) (mem : Ents) (bs : List Nat) (c : Nat) (ps : List (List AVal)) (b : Bool) (Q : AVal → AState → Prop) : Prop := Q (AVal.bool true) ([AObj.rows false 2 [[AVal.map 1, AVal.map 2]], AObj.mpn false [(AVal.agg [AVal.str s, AVal.str y], AVal.ptr 3 2 0 0)] bs c, AObj.mp true off, AObj.rows false 2 [[AVal.map 4, AVal.slc b 5 2 0 (List.length ps) none]], AObj.mp true mem, AObj.rows true 2 ps])
theorem given6e_wp (s : ByteArray) (y : ByteArray) (off : Ents) (mem : Ents) (bs : List Nat) (c : Nat) (ps : List (List AVal)) (b : Bool) {Q : AVal → AState → Prop} (h : given6e_T s y off mem bs c ps b Q) : ∃ r σ', FOk pgPF 27 ([ptr 0 2 0 0]) (H6n [(ky s y, ptr 3 2 0 0)] off mem bs c ps b) r σ' ∧ Q r σ' :=
  ⟨_, _, given6e_1 s y off mem bs c ps b, h⟩


abbrev M6 (pre post : Ents) (s c : ByteArray) (off : Ents) (us : List ByteArray) (bs : List Nat) (k : Nat) (f : Bool) (ps : List (List AVal)) : AState := [.rows false 2 [[.map 1, .map 2]], .mq pre [(ky s c, .ptr 3 2 0 0)] post, .mp true off, .rows false 2 [[.map 4, .slc f 5 2 0 ps.length none]], .mpn true (us.map gm) bs k, .rows true 2 ps]
theorem me6B_1 (pre : Ents) (post : Ents) (s : ByteArray) (c : ByteArray) (off : Ents) (us : List ByteArray) (bs : List Nat) (seen : List Nat) (k : Nat) (f : Bool) (ps : List (List AVal)) (u : ByteArray) (b : Bool) (rs : List (List AVal))
    (h1 : decide ((List.length rs + 1) * 16 ≤ 140737488355328 ∧ List.length rs + 1 ≤ 9223372036854775807) = true)
    (h2 : Option.getD (entV (List.map gm us) bs seen) AVal.any = tuple [str u, tt true])
    (h3 : Option.isSome (entV (List.map gm us) bs seen) = true) :
    TripN pgPF 6 (restOf (loopNo Tryd.f16 0)) (mkR 38 [(10, slc b 6 1 0 (List.length rs) none), (26, ptr 7 1 0 0), (28, tt true)]) (M6 pre post s c off us bs k f ps ++ (z13PF rs k seen)) (normal) (mkR 38 [(10, slc (b && false) 6 1 0 (List.length rs + 1) none), (26, ptr 7 1 0 0)]) ([rzPF false 2 [[map 1, map 2]], mq pre [(agg [str s, str c], ptr 3 2 0 0)] post, mp true off, rzPF false 2 [[map 4, slc f 5 2 0 (List.length ps) none]], AObj.mpn true (List.map gm us) bs k, rzPF true 2 ps, rzPF true 1 (rs ++ [[str u]]), AObj.miter (some 4) k seen k]) :=
  evalT (st := St.mk (mkR 38 [(10, slc b 6 1 0 (List.length rs) none), (26, ptr 7 1 0 0), (28, tt true)]) (M6 pre post s c off us bs k f ps ++ (z13PF rs k seen)) ([Dec.rw (tuple [str u, tt true])]) []) (st' := St.mk (mkR 38 [(10, slc (b && false) 9 1 0 (List.length rs + 1) none), (11, str u), (26, ptr 7 1 0 0), (28, tt true), (29, tuple [str u, tt true]), (30, str u), (31, slc b 6 1 0 (List.length rs) none), (32, str u), (33, slc false 8 1 0 1 (some 1)), (34, slc (b && false) 9 1 0 (List.length rs + 1) none)]) ([rzPF false 2 [[map 1, map 2]], mq pre [(agg [str s, str c], ptr 3 2 0 0)] post, mp true off, rzPF false 2 [[map 4, slc f 5 2 0 (List.length ps) none]], AObj.mpn true (List.map gm us) bs k, rzPF true 2 ps, dead, AObj.miter (some 4) k seen k, rzPF true 1 [[str u]], rzPF true 1 (rs ++ [[str u]])]) ([]) ((decide (List.length rs = List.length rs) = true) :: ((_) :: (tr 2 ++ ((_) :: ((_) :: ((k = k) :: []))))))) followed (by kernel_rfl) (allP_of ⟨decide_eq_true rfl, ⟨h1, (trC 2 ⟨h2, ⟨h3, ⟨rfl, trivial⟩⟩⟩)⟩⟩) (keepM 38 [10, 26]) ([0, 1, 2, 3, 4, 5, 9, 7]) (by kernel_rfl) (by kernel_rfl) (by kernel_rfl)

def me6B_T (pre : Ents) (post : Ents) (s : ByteArray) (c : ByteArray) (off : Ents) (us : List ByteArray) (bs : List Nat) (seen : List Nat) (k : Nat) (f : Bool) (ps : List (List AVal)) (u : ByteArray) (b : Bool) (rs : List (List AVal)) (Q : AExit → Regs → AState → Prop) : Prop := (Option.isSome (entV (List.map gm us) bs seen) = true) ∧ (Option.getD (entV (List.map gm us) bs seen) AVal.any = AVal.tuple [AVal.str u, AVal.tt true]) ∧ (decide ((List.length rs + 1) * 16 ≤ 140737488355328 ∧ List.length rs + 1 ≤ 9223372036854775807) = true) ∧ Q (AExit.normal) (mkR 38 [(10, AVal.slc (b && false) 6 1 0 (List.length rs + 1) none), (26, AVal.ptr 7 1 0 0)]) ([AObj.rows false 2 [[AVal.map 1, AVal.map 2]], AObj.mq pre [(AVal.agg [AVal.str s, AVal.str c], AVal.ptr 3 2 0 0)] post, AObj.mp true off, AObj.rows false 2 [[AVal.map 4, AVal.slc f 5 2 0 (List.length ps) none]], AObj.mpn true (List.map gm us) bs k, AObj.rows true 2 ps, AObj.rows true 1 (rs ++ [[AVal.str u]]), AObj.miter (some 4) k seen k])
theorem me6B_wp (pre : Ents) (post : Ents) (s : ByteArray) (c : ByteArray) (off : Ents) (us : List ByteArray) (bs : List Nat) (seen : List Nat) (k : Nat) (f : Bool) (ps : List (List AVal)) (u : ByteArray) (b : Bool) (rs : List (List AVal)) {Q : AExit → Regs → AState → Prop} (h : me6B_T pre post s c off us bs seen k f ps u b rs Q) : ∃ e rg' σ', TripN pgPF 6 (restOf (loopNo Tryd.f16 0)) (mkR 38 [(10, slc b 6 1 0 (List.length rs) none), (26, ptr 7 1 0 0), (28, tt true)]) (M6 pre post s c off us bs k f ps ++ (z13PF rs k seen)) e rg' σ' ∧ Q e rg' σ' :=
  ⟨_, _, _, me6B_1 pre post s c off us bs seen k f ps u b rs (h.2.2.1) (h.2.1) (h.1), h.2.2.2⟩


theorem me6X_1 (pre : Ents) (post : Ents) (s : ByteArray) (c : ByteArray) (off : Ents) (us : List ByteArray) (bs : List Nat) (seen : List Nat) (k : Nat) (f : Bool) (ps : List (List AVal)) (b : Bool) (rs : List (List AVal)) :
    TripN pgPF 6 (restOf (loopNo Tryd.f16 0)) (mkR 38 [(10, slc b 6 1 0 (List.length rs) none), (26, ptr 7 1 0 0), (28, tt false)]) (M6 pre post s c off us bs k f ps ++ (z13PF rs k seen)) (AExit.exit 0) (mkR 38 [(10, slc b 6 1 0 (List.length rs) none), (26, ptr 7 1 0 0)]) ((z11PF pre s c post off f ps us bs k rs seen)) :=
  evalT (st := St.mk (mkR 38 [(10, slc b 6 1 0 (List.length rs) none), (26, ptr 7 1 0 0), (28, tt false)]) (M6 pre post s c off us bs k f ps ++ (z13PF rs k seen)) ([]) []) (st' := St.mk (mkR 38 [(10, slc b 6 1 0 (List.length rs) none), (26, ptr 7 1 0 0), (28, tt false)]) ((z11PF pre s c post off f ps us bs k rs seen)) ([]) []) followed (by kernel_rfl) (allP_of trivial) (keepM 38 [10, 26]) ([0, 1, 2, 3, 4, 5, 6, 7]) (by kernel_rfl) (by kernel_rfl) (by kernel_rfl)

def me6X_T (pre : Ents) (post : Ents) (s : ByteArray) (c : ByteArray) (off : Ents) (us : List ByteArray) (bs : List Nat) (seen : List Nat) (k : Nat) (f : Bool) (ps : List (List AVal)) (b : Bool) (rs : List (List AVal)) (Q : AExit → Regs → AState → Prop) : Prop := Q (AExit.exit 0) (mkR 38 [(10, AVal.slc b 6 1 0 (List.length rs) none), (26, AVal.ptr 7 1 0 0)]) ([AObj.rows false 2 [[AVal.map 1, AVal.map 2]], AObj.mq pre [(AVal.agg [AVal.str s, AVal.str c], AVal.ptr 3 2 0 0)] post, AObj.mp true off, AObj.rows false 2 [[AVal.map 4, AVal.slc f 5 2 0 (List.length ps) none]], AObj.mpn true (List.map gm us) bs k, AObj.rows true 2 ps, AObj.rows true 1 rs, AObj.miter (some 4) k seen k])
theorem me6X_wp (pre : Ents) (post : Ents) (s : ByteArray) (c : ByteArray) (off : Ents) (us : List ByteArray) (bs : List Nat) (seen : List Nat) (k : Nat) (f : Bool) (ps : List (List AVal)) (b : Bool) (rs : List (List AVal)) {Q : AExit → Regs → AState → Prop} (h : me6X_T pre post s c off us bs seen k f ps b rs Q) : ∃ e rg' σ', TripN pgPF 6 (restOf (loopNo Tryd.f16 0)) (mkR 38 [(10, slc b 6 1 0 (List.length rs) none), (26, ptr 7 1 0 0), (28, tt false)]) (M6 pre post s c off us bs k f ps ++ (z13PF rs k seen)) e rg' σ' ∧ Q e rg' σ' :=
  ⟨_, _, _, me6X_1 pre post s c off us bs seen k f ps b rs, h⟩


theorem me6_1 (pre : Ents) (post : Ents) (s : ByteArray) (c : ByteArray) (off : Ents) (us : List ByteArray) (vs : List ByteArray) (bs : List Nat) (k : Nat) (n : Nat) (nb : Bool) (f : Bool) (ps : List (List AVal))
    (h1 : FOk pgPF 33 [slc nb 0 1 0 n none] [AObj.bag 1 (List.map (fun u => [str u]) us)] (tuple []) [rzPF true 1 (List.map (fun u => [str u]) vs)])
    (h2 : TripN pgPF 6 (Code.loop (loopNo Tryd.f16 0)) (mkR 38 [(10, slc true 6 1 0 0 none), (26, ptr 7 1 0 0)]) (z10PF pre s c post off f ps us bs k) (AExit.exit 0) (mkR 38 [(10, slc nb 6 1 0 n none)]) (z5PF pre s c post off f ps us bs k))
    (h3 : FOk pgPF 32 [ptr 0 2 0 0, str s, str c] (z0PF pre s c post off f ps us bs k) (tuple [ptr 3 2 0 0, iqPF 0]) (z0PF pre s c post off f ps us bs k)) :
    FOk pgPF 16 ([ptr 0 2 0 0, str s, str c]) (M6 pre post s c off us bs k f ps) (tuple [slc nb 6 1 0 n none, iqPF 0]) ([rzPF false 2 [[map 1, map 2]], mq pre [(agg [str s, str c], ptr 3 2 0 0)] post, mp true off, rzPF false 2 [[map 4, slc f 5 2 0 (List.length ps) none]], AObj.mpn true (List.map gm us) bs k, rzPF true 2 ps, rzPF true 1 (List.map (fun u => [str u]) vs)]) :=
  (evalF_ok followed Tryd.func16 (by kernel_rfl) (show evalF pgPF Tryd.f16 ([ptr 0 2 0 0, str s, str c]) (M6 pre post s c off us bs k f ps) ([use [0, 1, 2, 3, 4, 5] [ptr 0 2 0 0, str s, str c] (z0PF pre s c post off f ps us bs k) (tuple [ptr 3 2 0 0, iqPF 0]) (z0PF pre s c post off f ps us bs k), br false, Dec.place 10 1 true, Dec.compact (keepM 38 [10, 26]) [0, 1, 2, 3, 4, 5, 7, 6], Dec.loop (AExit.exit 0) (mkR 38 [(10, slc nb 6 1 0 n none)]) (M6 pre post s c off us bs k f ps ++ [AObj.bag 1 (List.map (fun u => [str u]) us), dead]), use [6] [slc nb 0 1 0 n none] [AObj.bag 1 (List.map (fun u => [str u]) us)] (tuple []) [rzPF true 1 (List.map (fun u => [str u]) vs)]]) = .ok (FRes.mk (tuple [slc nb 6 1 0 n none, iqPF 0]) ([rzPF false 2 [[map 1, map 2]], mq pre [(agg [str s, str c], ptr 3 2 0 0)] post, mp true off, rzPF false 2 [[map 4, slc f 5 2 0 (List.length ps) none]], AObj.mpn true (List.map gm us) bs k, rzPF true 2 ps, rzPF true 1 (List.map (fun u => [str u]) vs), dead]) ((Owed.use (owed pgPF 6) 33 [6] [slc nb 6 1 0 n none] (z5PF pre s c post off f ps us bs k) [slc nb 0 1 0 n none] [AObj.bag 1 (List.map (fun u => [str u]) us)] (tuple []) [rzPF true 1 (List.map (fun u => [str u]) vs)]) :: ((Owed.loop (owed pgPF 6) (loopNo Tryd.f16 0) (mkR 38 [(10, slc true 6 1 0 0 none), (26, ptr 7 1 0 0)]) (z10PF pre s c post off f ps us bs k) (AExit.exit 0) (mkR 38 [(10, slc nb 6 1 0 n none)]) (z5PF pre s c post off f ps us bs k)) :: (tr 2 ++ ((false = false) :: ((Owed.use (owed pgPF 6) 32 [0, 1, 2, 3, 4, 5] [ptr 0 2 0 0, str s, str c] (z0PF pre s c post off f ps us bs k) [ptr 0 2 0 0, str s, str c] (z0PF pre s c post off f ps us bs k) (tuple [ptr 3 2 0 0, iqPF 0]) (z0PF pre s c post off f ps us bs k)) :: [])))))) by kernel_rfl) (allP_of ⟨⟨h1, rfl, rfl, rfl⟩, ⟨h2, (trC 2 ⟨rfl, ⟨⟨h3, rfl, rfl, rfl⟩, trivial⟩⟩)⟩⟩)).move ([0, 1, 2, 3, 4, 5, 6]) (by kernel_rfl) (by kernel_rfl) (by kernel_rfl)

def me6_T (pre : Ents) (post : Ents) (s : ByteArray) (c : ByteArray) (off : Ents) (us : List ByteArray) (vs : List ByteArray) (bs : List Nat) (k : Nat) (n : Nat) (nb : Bool) (f : Bool) (ps : List (List AVal)) (Q : AVal → AState → Prop) : Prop := (FOk Tryd.prog 32 [AVal.ptr 0 2 0 0, AVal.str s, AVal.str c] [AObj.rows false 2 [[AVal.map 1, AVal.map 2]], AObj.mq pre [(AVal.agg [AVal.str s, AVal.str c], AVal.ptr 3 2 0 0)] post, AObj.mp true off, AObj.rows false 2 [[AVal.map 4, AVal.slc f 5 2 0 (List.length ps) none]], AObj.mpn true (List.map gm us) bs k, AObj.rows true 2 ps] (AVal.tuple [AVal.ptr 3 2 0 0, AVal.int IntKind.i64 0]) [AObj.rows false 2 [[AVal.map 1, AVal.map 2]], AObj.mq pre [(AVal.agg [AVal.str s, AVal.str c], AVal.ptr 3 2 0 0)] post, AObj.mp true off, AObj.rows false 2 [[AVal.map 4, AVal.slc f 5 2 0 (List.length ps) none]], AObj.mpn true (List.map gm us) bs k, AObj.rows true 2 ps]) ∧ (TripN Tryd.prog 6 (Code.loop (loopNo Tryd.f16 0)) (mkR 38 [(10, AVal.slc true 6 1 0 0 none), (26, AVal.ptr 7 1 0 0)]) [AObj.rows false 2 [[AVal.map 1, AVal.map 2]], AObj.mq pre [(AVal.agg [AVal.str s, AVal.str c], AVal.ptr 3 2 0 0)] post, AObj.mp true off, AObj.rows false 2 [[AVal.map 4, AVal.slc f 5 2 0 (List.length ps) none]], AObj.mpn true (List.map gm us) bs k, AObj.rows true 2 ps, AObj.rows true 1 [], AObj.miter (some 4) k [] k] (AExit.exit 0) (mkR 38 [(10, AVal.slc nb 6 1 0 n none)]) [AObj.rows false 2 [[AVal.map 1, AVal.map 2]], AObj.mq pre [(AVal.agg [AVal.str s, AVal.str c], AVal.ptr 3 2 0 0)] post, AObj.mp true off, AObj.rows false 2 [[AVal.map 4, AVal.slc f 5 2 0 (List.length ps) none]], AObj.mpn true (List.map gm us) bs k, AObj.rows true 2 ps, AObj.bag 1 (List.map (fun u => [AVal.str u]) us), AObj.dead]) ∧ (FOk Tryd.prog 33 [AVal.slc nb 0 1 0 n none] [AObj.bag 1 (List.map (fun u => [AVal.str u]) us)] (AVal.tuple []) [AObj.rows true 1 (List.map (fun u => [AVal.str u]) vs)]) ∧ Q (AVal.tuple [AVal.slc nb 6 1 0 n none, AVal.int IntKind.i64 0]) ([AObj.rows false 2 [[AVal.map 1, AVal.map 2]], AObj.mq pre [(AVal.agg [AVal.str s, AVal.str c], AVal.ptr 3 2 0 0)] post, AObj.mp true off, AObj.rows false 2 [[AVal.map 4, AVal.slc f 5 2 0 (List.length ps) none]], AObj.mpn true (List.map gm us) bs k, AObj.rows true 2 ps, AObj.rows true 1 (List.map (fun u => [AVal.str u]) vs)])
theorem me6_wp (pre : Ents) (post : Ents) (s : ByteArray) (c : ByteArray) (off : Ents) (us : List ByteArray) (vs : List ByteArray) (bs : List Nat) (k : Nat) (n : Nat) (nb : Bool) (f : Bool) (ps : List (List AVal)) {Q : AVal → AState → Prop} (h : me6_T pre post s c off us vs bs k n nb f ps Q) : ∃ r σ', FOk pgPF 16 ([ptr 0 2 0 0, str s, str c]) (M6 pre post s c off us bs k f ps) r σ' ∧ Q r σ' :=
  ⟨_, _, me6_1 pre post s c off us vs bs k n nb f ps (h.2.2.1) (h.2.1) (h.1), h.2.2.2⟩


theorem given6m_1 (pre : Ents) (post : Ents) (s : ByteArray) (c : ByteArray) (off : Ents) (us : List ByteArray) (bs : List Nat) (k : Nat) (f : Bool) (ps : List (List AVal)) :
    FOk pgPF 27 ([ptr 0 2 0 0]) (M6 pre post s c off us bs k f ps) (bool true) ((z0PF pre s c post off f ps us bs k)) :=
  (evalF_ok followed Tryd.func27 (by kernel_rfl) (show evalF pgPF Tryd.f27 ([ptr 0 2 0 0]) (M6 pre post s c off us bs k f ps) ([br true]) = .ok (FRes.mk (bool true) ((z0PF pre s c post off f ps us bs k)) (tr 3 ++ [])) by kernel_rfl) (allP_of (trC 3 trivial))).move ([0, 1, 2, 3, 4, 5]) (by kernel_rfl) (by kernel_rfl) (by kernel_rfl)

def given6m_T (pre : Ents) (post : Ents) (s : ByteArray) (c : ByteArray) (off : Ents) (us : List ByteArray) (bs : List Nat) (k : Nat) (f : Bool) (ps : List (List AVal)) (Q : AVal → AState → Prop) : Prop := Q (AVal.bool true) ([AObj.rows false 2 [[AVal.map 1, AVal.map 2]], AObj.mq pre [(AVal.agg [AVal.str s, AVal.str c], AVal.ptr 3 2 0 0)] post, AObj.mp true off, AObj.rows false 2 [[AVal.map 4, AVal.slc f 5 2 0 (List.length ps) none]], AObj.mpn true (List.map gm us) bs k, AObj.rows true 2 ps])
theorem given6m_wp (pre : Ents) (post : Ents) (s : ByteArray) (c : ByteArray) (off : Ents) (us : List ByteArray) (bs : List Nat) (k : Nat) (f : Bool) (ps : List (List AVal)) {Q : AVal → AState → Prop} (h : given6m_T pre post s c off us bs k f ps Q) : ∃ r σ', FOk pgPF 27 ([ptr 0 2 0 0]) (M6 pre post s c off us bs k f ps) r σ' ∧ Q r σ' :=
  ⟨_, _, given6m_1 pre post s c off us bs k f ps, h⟩


theorem fi6n_1 (pre : Ents) (post : Ents) (s : ByteArray) (c : ByteArray) (off : Ents) (us : List ByteArray) (bs : List Nat) (k : Nat) (f : Bool) (ps : List (List AVal))
    (h1 : tuple [Option.getD (afind (agg [str s, str c]) (pre ++ [(agg [str s, str c], ptr 3 2 0 0)] ++ post)) nilp, tt (Option.isSome (afind (agg [str s, str c]) (pre ++ [(agg [str s, str c], ptr 3 2 0 0)] ++ post)))] = tuple [ptr 3 2 0 0, tt true])
    (h2 : (List.all (pre ++ [(agg [str s, str c], ptr 3 2 0 0)] ++ post) fun p => keyKind pgPF 69 (Prod.fst p)) = true)
    (h3 : FOk pgPF 27 [ptr 0 2 0 0] (z0PF pre s c post off f ps us bs k) (bool true) (z0PF pre s c post off f ps us bs k)) :
    FOk pgPF 32 ([ptr 0 2 0 0, str s, str c]) (M6 pre post s c off us bs k f ps) (tuple [ptr 3 2 0 0, iqPF 0]) ((z0PF pre s c post off f ps us bs k)) :=
  (evalF_ok followed Tryd.func32 (by kernel_rfl) (show evalF pgPF Tryd.f32 ([ptr 0 2 0 0, str s, str c]) (M6 pre post s c off us bs k f ps) ([use [0, 1, 2, 3, 4, 5] [ptr 0 2 0 0] (z0PF pre s c post off f ps us bs k) (bool true) (z0PF pre s c post off f ps us bs k), br false, Dec.rw (tuple [ptr 3 2 0 0, tt true])]) = .ok (FRes.mk (tuple [ptr 3 2 0 0, iqPF 0]) ((z0PF pre s c post off f ps us bs k)) ((_) :: ((_) :: (tr 2 ++ ((false = false) :: ((Owed.use (owed pgPF 6) 27 [0, 1, 2, 3, 4, 5] [ptr 0 2 0 0] (z0PF pre s c post off f ps us bs k) [ptr 0 2 0 0] (z0PF pre s c post off f ps us bs k) (bool true) (z0PF pre s c post off f ps us bs k)) :: [])))))) by kernel_rfl) (allP_of ⟨h1, ⟨h2, (trC 2 ⟨rfl, ⟨⟨h3, rfl, rfl, rfl⟩, trivial⟩⟩)⟩⟩)).move ([0, 1, 2, 3, 4, 5]) (by kernel_rfl) (by kernel_rfl) (by kernel_rfl)

def fi6n_T (pre : Ents) (post : Ents) (s : ByteArray) (c : ByteArray) (off : Ents) (us : List ByteArray) (bs : List Nat) (k : Nat) (f : Bool) (ps : List (List AVal)) (Q : AVal → AState → Prop) : Prop := (FOk Tryd.prog 27 [AVal.ptr 0 2 0 0] [AObj.rows false 2 [[AVal.map 1, AVal.map 2]], AObj.mq pre [(AVal.agg [AVal.str s, AVal.str c], AVal.ptr 3 2 0 0)] post, AObj.mp true off, AObj.rows false 2 [[AVal.map 4, AVal.slc f 5 2 0 (List.length ps) none]], AObj.mpn true (List.map gm us) bs k, AObj.rows true 2 ps] (AVal.bool true) [AObj.rows false 2 [[AVal.map 1, AVal.map 2]], AObj.mq pre [(AVal.agg [AVal.str s, AVal.str c], AVal.ptr 3 2 0 0)] post, AObj.mp true off, AObj.rows false 2 [[AVal.map 4, AVal.slc f 5 2 0 (List.length ps) none]], AObj.mpn true (List.map gm us) bs k, AObj.rows true 2 ps]) ∧ ((List.all (pre ++ [(AVal.agg [AVal.str s, AVal.str c], AVal.ptr 3 2 0 0)] ++ post) fun p => keyKind Tryd.prog 69 (Prod.fst p)) = true) ∧ (AVal.tuple [Option.getD (afind (AVal.agg [AVal.str s, AVal.str c]) (pre ++ [(AVal.agg [AVal.str s, AVal.str c], AVal.ptr 3 2 0 0)] ++ post)) AVal.nilp, AVal.tt (Option.isSome (afind (AVal.agg [AVal.str s, AVal.str c]) (pre ++ [(AVal.agg [AVal.str s, AVal.str c], AVal.ptr 3 2 0 0)] ++ post)))] = AVal.tuple [AVal.ptr 3 2 0 0, AVal.tt true]) ∧ Q (AVal.tuple [AVal.ptr 3 2 0 0, AVal.int IntKind.i64 0]) ([AObj.rows false 2 [[AVal.map 1, AVal.map 2]], AObj.mq pre [(AVal.agg [AVal.str s, AVal.str c], AVal.ptr 3 2 0 0)] post, AObj.mp true off, AObj.rows false 2 [[AVal.map 4, AVal.slc f 5 2 0 (List.length ps) none]], AObj.mpn true (List.map gm us) bs k, AObj.rows true 2 ps])
theorem fi6n_wp (pre : Ents) (post : Ents) (s : ByteArray) (c : ByteArray) (off : Ents) (us : List ByteArray) (bs : List Nat) (k : Nat) (f : Bool) (ps : List (List AVal)) {Q : AVal → AState → Prop} (h : fi6n_T pre post s c off us bs k f ps Q) : ∃ r σ', FOk pgPF 32 ([ptr 0 2 0 0, str s, str c]) (M6 pre post s c off us bs k f ps) r σ' ∧ Q r σ' :=
  ⟨_, _, fi6n_1 pre post s c off us bs k f ps (h.2.2.1) (h.2.1) (h.1), h.2.2.2⟩


end Go.MN
end

section
set_option linter.unusedVariables false
set_option linter.unusedSimpArgs false
set_option maxRecDepth 100000
namespace Go.MN
open Go Go.Abs Go.Proofs
theorem beqB (a b : ByteArray) : (a == b) = decide (a = b) := by
  by_cases h : a = b
  · subst h; rw [decide_eq_true rfl]; exact (Go.MapKept.bytes_beq a a).2 rfl
  · rw [decide_eq_false h]
    cases hb : (a == b) with
    | false => rfl
    | true => exact absurd ((Go.MapKept.bytes_beq a b).1 hb) h
instance : LawfulBEq ByteArray where
  eq_of_beq := fun h => (Go.MapKept.bytes_beq _ _).1 h
  rfl := (Go.MapKept.bytes_beq _ _).2 rfl
theorem keq_str (a b : ByteArray) : keq (.str a) (.str b) = decide (a = b) := by show (a == b) = _; exact beqB a b
theorem keq_ky (s c y z : ByteArray) : keq (ky s c) (ky y z) = (decide (s = y) && decide (c = z)) := by
  show ((s == y) && ((c == z) && true)) = _
  rw [beqB, beqB, Bool.and_true]
def gms (l : List ByteArray) : Ents := l.map gm
theorem afind_gm (u : ByteArray) : ∀ (l : List ByteArray), afind (.str u) (gms l) = if u ∈ l then some (.tt true) else none
  | [] => rfl
  | v :: l => by
    show (if keq (.str u) (.str v) = true then some (AVal.tt true) else afind (.str u) (gms l)) = _
    rw [keq_str, afind_gm u l]
    by_cases h : u = v
    · simp [h]
    · simp [h]
theorem aput_gm (u : ByteArray) : ∀ (l : List ByteArray), u ∉ l → aput (.str u) (.tt true) (gms l) = gms (l ++ [u])
  | [], _ => rfl
  | v :: l, h => by
    have h1 : u ≠ v := fun e => h (by simp [e])
    have h2 : u ∉ l := fun e => h (by simp [e])
    show (if keq (.str u) (.str v) = true then _ else (AVal.str v, AVal.tt true) :: aput (.str u) (.tt true) (gms l)) = _
    rw [keq_str, decide_eq_false h1, if_neg (by simp), aput_gm u l h2]; rfl
theorem adel_gm (u : ByteArray) : ∀ (l : List ByteArray), adel (.str u) (gms l) = gms (l.erase u)
  | [] => rfl
  | v :: l => by
    show (if keq (.str u) (.str v) = true then gms l else (AVal.str v, AVal.tt true) :: adel (.str u) (gms l)) = _
    rw [keq_str, adel_gm u l, List.erase_cons]
    by_cases h : u = v
    · subst h; simp
    · have : (v == u) = false := by rw [beqB]; simp; exact fun e => h e.symm
      rw [this]; simp [h]; rfl
theorem kk9 (u : ByteArray) : keyKind Tryd.prog 9 (.str u) = true := by unfold keyKind; rw [Tryd.underlying9]
theorem kk9s (l : List ByteArray) : (List.all (gms l) fun p => keyKind Tryd.prog 9 (Prod.fst p)) = true := by
  rw [List.all_eq_true]; intro e he
  obtain ⟨u, _, rfl⟩ := List.mem_map.1 he
  exact kk9 u
theorem ok4 (b : Bool) : okCells Tryd.prog 4 (.tt b) = true := by cases b <;> kernel_rfl
theorem as4 (b : Bool) : asType Tryd.prog 4 (reifyL [Kind.bool] (AVal.cells (.tt b))) = .bool b := by cases b <;> kernel_rfl
theorem getD_gm (u : ByteArray) (l : List ByteArray) : Option.getD (afind (.str u) (gms l)) (.tt false) = .tt (decide (u ∈ l)) := by
  rw [afind_gm]; by_cases h : u ∈ l <;> simp [h]
theorem kk69 (s c : ByteArray) : keyKind Tryd.prog 69 (ky s c) = true := by kernel_rfl
def keysOk (l : Ents) : Prop := ∀ e ∈ l, ∃ s c, e.1 = ky s c
theorem keys_all {l : Ents} (h : keysOk l) : (List.all l fun p => keyKind Tryd.prog 69 (Prod.fst p)) = true := by
  rw [List.all_eq_true]; intro e he
  obtain ⟨s, c, h⟩ := h e he
  rw [h]; exact kk69 s c
theorem afind_app (k : AVal) : ∀ (l l' : Ents), afind k l = none → afind k (l ++ l') = afind k l'
  | [], l', _ => rfl
  | (k', v') :: l, l', h => by
    simp only [afind, List.cons_append] at h ⊢
    split at h
    · cases h
    · rename_i hk; rw [if_neg hk]; exact afind_app k l l' h
theorem afind_mid (s c : ByteArray) (v : AVal) (pre post : Ents) (h : afind (ky s c) pre = none) : afind (ky s c) (pre ++ [(ky s c, v)] ++ post) = some v := by
  rw [List.append_assoc, afind_app _ _ _ h]
  show (if keq (ky s c) (ky s c) = true then some v else _) = _
  rw [keq_ky]; simp

theorem wJ_off (pre post : Ents) (s c u : ByteArray) (offs us : List ByteArray) (b : Bool) (ps : List (List AVal)) (h : u ∈ offs) : FOk Tryd.prog 31 [.ptr 0 2 0 0, ky s c, .ptr 1 2 0 0, opw 2 s c u w0 w0 w0 0 0] (W6 pre post s c (gms offs) (gms us) b ps) (rep 92 0 nilps) (W6 pre post s c (gms offs) (gms us) b ps) := by
  refine FOk.wp (wJ_wp pre post s c u (gms offs) (gms us) b ps true false ?_)
  unfold wJ_T
  rw [getD_gm, decide_eq_true h]
  exact ⟨kk9s _, ok4 _, by rw [if_neg (by simp)]; exact as4 true, fun _ => ⟨rfl, rfl⟩, fun h => by cases h⟩
theorem wJ_there (pre post : Ents) (s c u : ByteArray) (offs us : List ByteArray) (b : Bool) (ps : List (List AVal)) (h : u ∉ offs) (h2 : u ∈ us) : FOk Tryd.prog 31 [.ptr 0 2 0 0, ky s c, .ptr 1 2 0 0, opw 2 s c u w0 w0 w0 0 0] (W6 pre post s c (gms offs) (gms us) b ps) (rep 90 0 nilps) (W6 pre post s c (gms offs) (gms us) b ps) := by
  refine FOk.wp (wJ_wp pre post s c u (gms offs) (gms us) b ps false true ?_)
  unfold wJ_T
  rw [getD_gm, getD_gm, decide_eq_false h, decide_eq_true h2]
  exact ⟨kk9s _, ok4 _, by rw [if_neg (by simp)]; exact as4 false, (fun h => by cases h), fun _ => ⟨kk9s _, ok4 _, by rw [if_neg (by simp)]; exact as4 true, fun _ => ⟨rfl, rfl⟩, fun h => by cases h⟩⟩
theorem wJ_new (pre post : Ents) (s c u : ByteArray) (offs us : List ByteArray) (b : Bool) (ps : List (List AVal)) (h : u ∉ offs) (h2 : u ∉ us) : FOk Tryd.prog 31 [.ptr 0 2 0 0, ky s c, .ptr 1 2 0 0, opw 2 s c u w0 w0 w0 0 0] (W6 pre post s c (gms offs) (gms us) b ps) (rep 0 0 nilps) (W6 pre post s c (gms offs) (gms (us ++ [u])) b ps) := by
  refine FOk.wp (wJ_wp pre post s c u (gms offs) (gms us) b ps false false ?_)
  unfold wJ_T
  rw [getD_gm, getD_gm, decide_eq_false h, decide_eq_false h2, aput_gm u us h2]
  exact ⟨kk9s _, ok4 _, by rw [if_neg (by simp)]; exact as4 false, (fun h => by cases h), fun _ => ⟨kk9s _, ok4 _, by rw [if_neg (by simp)]; exact as4 false, (fun h => by cases h), fun _ => ⟨rfl, rfl⟩⟩⟩
end Go.MN
end

section
set_option linter.unusedVariables false
set_option linter.unusedSimpArgs false
set_option maxRecDepth 100000
namespace Go.MN
open Go Go.Abs Go.Proofs
theorem FOk.pushE {P : Program} {f : FuncId} {xs : List AVal} {σ σ' : AState} {v : AVal} (h : FOk P f xs σ v σ') (A : AObj) : FOk P f xs σ v (σ' ++ [A]) := h.post fun F w ρ r => r.push A
theorem Imp.nilSlc (es id es2 : Nat) : Imp (.fsl true es [] (some 0)) (.slc true id es2 0 0 none) := fun F w ρ c h => by
  cases h with
  | fnil ρ es cap hc => exact .slcE _ _ _ _ _ _ _ rfl (by simp)
theorem mq0 {P : Program} {f : FuncId} {xs : List AVal} {σ σ' : AState} {v : AVal} {id : Nat} (h : FOk P f xs σ v σ') (ho : Abs.obj σ' id = .mp false []) : FOk P f xs σ v (σ'.set id (.mq [] [] [])) :=
  h.post fun F w ρ r => r.reobj ho rfl fun b hb => ⟨fun e he => by simp at he, r.obj _ _ _ (obj_some ho rfl) hb⟩
theorem unmq1 {P : Program} {f : FuncId} {xs : List AVal} {σ σ' : AState} {v : AVal} {id : Nat} {own : Ents} (h : FOk P f xs σ v σ') (ho : Abs.obj σ' id = .mp false own) : FOk P f xs σ v (σ'.set id (.mq [] own [])) :=
  h.post fun F w ρ r => r.reobj ho rfl fun b hb => ⟨fun e he => by simp at he, by have := r.obj _ _ _ (obj_some ho rfl) hb; rw [List.nil_append, List.append_nil]; exact this⟩
theorem mq1 {P : Program} {f : FuncId} {xs : List AVal} {σ σ' : AState} {v : AVal} {id : Nat} {own : Ents} (h : FOk P f xs (σ.set id (.mp false own)) v σ') (ho : Abs.obj σ id = .mq [] own []) : FOk P f xs σ v σ' :=
  h.pre fun F w ρ r => r.reobj ho rfl fun b hb => by have := (r.obj _ _ _ (obj_some ho rfl) hb).2; rw [List.nil_append, List.append_nil] at this; exact this

theorem new_ok : FOk Tryd.prog 12 [] [] (.ptr 0 2 0 0) (H3 [] (gms [])) := mq0 (id := 1) (FOk.wp (new__wp ⟨rfl, rfl⟩)) rfl
theorem doA3 (pre off : Ents) (k : Int) (s c u x y z : ByteArray) (f m : Int) (ck : FOk Tryd.prog 21 [opw k s c u x y z f m] [] (.int .i64 1) []) : FOk Tryd.prog 13 [.ptr 0 2 0 0, opw k s c u x y z f m] (H3 pre off) (rep 1 0 nilps) (H3 pre off) :=
  FOk.wp (dA3_wp pre off k s c u x y z f m ⟨given3 .., ck, no_ok 1, rfl, rfl⟩)
theorem doN3 (pre off : Ents) (k : Int) (s c u x y z : ByteArray) (f m : Int) (ck : FOk Tryd.prog 21 [opw k s c u x y z f m] [] (.int .i64 0) []) (hk : keysOk pre) (hn : afind (ky s c) pre = none) (h1 : k ≠ 1) (h6 : k ≠ 6) (h7 : k ≠ 7) :
    FOk Tryd.prog 13 [.ptr 0 2 0 0, opw k s c u x y z f m] (H3 pre off) (rep 3 0 nilps) (H3 pre off) := by
  refine FOk.wp (dN3_wp pre off k s c u x y z f m ?_)
  unfold dN3_T
  rw [List.append_nil, List.append_nil, hn]
  exact ⟨given3 .., ck, keys_all hk, rfl, by simpa using h1, by simpa using h6, by simpa using h7, no_ok 3, rfl, rfl⟩
theorem doM3 (pre off : Ents) (s c : ByteArray) (ck : FOk Tryd.prog 21 [opw 1 s c w0 w0 w0 w0 0 0] [] (.int .i64 0) []) (hk : keysOk pre) (hn : afind (ky s c) pre = none) :
    FOk Tryd.prog 13 [.ptr 0 2 0 0, opw 1 s c w0 w0 w0 w0 0 0] (H3 pre off) (rep 0 0 nilps) (H6 pre [] s c off (gms []) true []) := by
  have h : FOk Tryd.prog 13 [.ptr 0 2 0 0, opw 1 s c w0 w0 w0 w0 0 0] (H3 pre off) (rep 0 0 nilps) [.rows false 2 [[.map 1, .map 2]], .mq (pre ++ []) [(ky s c, .ptr 3 2 0 0)] [], .mp true off, .rows false 2 [[.map 4, .fsl true 0 [] (some 0)]], .mp true []] := by
    refine FOk.wp (dM3_wp pre off s c ?_)
    unfold dM3_T
    refine ⟨given3 .., ck, ?_⟩
    simp only [List.append_nil, hn]
    simp [keys_all hk]
  rw [List.append_nil] at h
  exact (FOk.pushE h (.rows true 2 [])).weakCell (id := 3) (i := 0) (j := 1) (es' := 2) (rs := [[.map 4, .fsl true 0 [] (some 0)]]) rfl (Imp.nilSlc 0 5 2)
theorem doM6 (pre post : Ents) (s c : ByteArray) (off mem : Ents) (b : Bool) (ps : List (List AVal)) (ck : FOk Tryd.prog 21 [opw 1 s c w0 w0 w0 w0 0 0] [] (.int .i64 0) []) (hk : keysOk (pre ++ post)) (hn : afind (ky s c) pre = none) :
    FOk Tryd.prog 13 [.ptr 0 2 0 0, opw 1 s c w0 w0 w0 w0 0 0] (H6 pre post s c off mem b ps) (rep 90 0 nilps) (H6 pre post s c off mem b ps) := by
  refine FOk.wp (dM6_wp pre post s c off mem b ps ?_)
  unfold dM6_T
  rw [afind_mid s c _ pre post hn]
  exact ⟨given6 .., ck, keys_all (fun e he => by
    rw [List.append_assoc, List.mem_append, List.mem_append, List.mem_singleton] at he
    rcases he with he | rfl | he
    · exact hk e (List.mem_append.2 (.inl he))
    · exact ⟨s, c, rfl⟩
    · exact hk e (List.mem_append.2 (.inr he))), rfl, no_ok 90, rfl, rfl⟩
theorem keys_mid {pre post : Ents} {s c : ByteArray} {v : AVal} (hk : keysOk (pre ++ post)) : keysOk (pre ++ [(ky s c, v)] ++ post) := fun e he => by
  rw [List.append_assoc, List.mem_append, List.mem_append, List.mem_singleton] at he
  rcases he with he | rfl | he
  · exact hk e (List.mem_append.2 (.inl he))
  · exact ⟨s, c, rfl⟩
  · exact hk e (List.mem_append.2 (.inr he))
theorem doS (pre post : Ents) (k : Int) (s c u x y z : ByteArray) (f m : Int) (off mem : Ents) (b : Bool) (ps : List (List AVal)) (e a : Int) (nl : Bool) (qs : List (List AVal)) (ck : FOk Tryd.prog 21 [opw k s c u x y z f m] [] (.int .i64 0) []) (hk : keysOk (pre ++ post)) (hn : afind (ky s c) pre = none) (h1 : k ≠ 1) (h6 : k ≠ 6) (h7 : k ≠ 7)
    (hw : FOk Tryd.prog 31 [.ptr 0 2 0 0, ky s c, .ptr 1 2 0 0, opw k s c u x y z f m] (W6 pre post s c off mem b ps) (rep e a (.fsl nl 2 qs none)) (W6 pre post s c off mem b ps)) :
    FOk Tryd.prog 13 [.ptr 0 2 0 0, opw k s c u x y z f m] (H6 pre post s c off mem b ps) (rep e a (.fsl nl 2 qs none)) (H6 pre post s c off mem b ps) := by
  refine FOk.wp (dS_wp pre post k s c u x y z f m off mem b ps e a nl qs ?_)
  unfold dS_T
  rw [afind_mid s c _ pre post hn]
  exact ⟨given6 .., ck, keys_all (keys_mid hk), rfl, by simpa using h1, by simpa using h6, by simpa using h7, hw, rfl, rfl⟩
theorem doJ (pre post : Ents) (s c u : ByteArray) (offs us : List ByteArray) (b : Bool) (ps : List (List AVal)) (ck : FOk Tryd.prog 21 [opw 2 s c u w0 w0 w0 0 0] [] (.int .i64 0) []) (hk : keysOk (pre ++ post)) (hn : afind (ky s c) pre = none) (h : u ∉ offs) (h2 : u ∉ us) :
    FOk Tryd.prog 13 [.ptr 0 2 0 0, opw 2 s c u w0 w0 w0 0 0] (H6 pre post s c (gms offs) (gms us) b ps) (rep 0 0 nilps) (H6 pre post s c (gms offs) (gms (us ++ [u])) b ps) := by
  refine FOk.wp (dJ_wp pre post s c u (gms offs) (gms us) (gms (us ++ [u])) b ps ?_)
  unfold dJ_T
  rw [afind_mid s c _ pre post hn]
  exact ⟨given6 .., ck, keys_all (keys_mid hk), rfl, wJ_new pre post s c u offs us b ps h h2, rfl, rfl⟩
end Go.MN
end

section
set_option linter.unusedVariables false
set_option maxRecDepth 100000
namespace Go.MN
open Go Go.Abs Go.Proofs
abbrev tw : ByteArray := ⟨#[119]⟩
abbrev tc : ByteArray := ⟨#[99]⟩
abbrev tann : ByteArray := ⟨#[97, 110, 110]⟩
abbrev thi : ByteArray := ⟨#[104, 105]⟩
abbrev tho : ByteArray := ⟨#[104, 111]⟩
abbrev tno : ByteArray := ⟨#[110, 111]⟩
abbrev mA : Ents := [gm tann]
abbrev pst (x : ByteArray) : List AVal := [.str tann, .str x]
abbrev okr : AVal := rep 0 0 nilps
abbrev P1 (mem : Ents) (ps : List (List AVal)) (n : Nat) : AState := [.rows false 2 [[.map 1, .map 2]], .mq [] [(ky tw tc, .ptr 3 2 0 0)] [], .mp true [], .rows false 2 [[.map 4, .slc false 6 2 0 n none]], .mp true mem, .dead, .rows true 2 ps]
abbrev iqPI : Int → AVal := AVal.int IntKind.i64
abbrev bqPI : ByteArray := ByteArray.mk #[]
open Go.Abs.AVal (str agg ptr slc fsl tuple nilp)
open Go.Abs.Dec (br use)
open Go.Abs.AExit (normal)
open Go.Abs.AObj (mp mq dead)
open Go.Abs.AVal (bool tt map)
open Go.IntKind (u8 i64 u64)
open Go.Abs.AObj (gh)
abbrev rzPI : Bool → Nat → List (List AVal) → AObj := AObj.rows
noncomputable abbrev pgPI : Program := Tryd.prog
abbrev z0PI  : AState := [AObj.rows false 2 [[map 1, map 2]], AObj.mq [] [(agg [str tw, str tc], ptr 3 2 0 0)] [], AObj.mp true [(str tann, tt true)], AObj.rows false 2 [[map 4, slc false 5 2 0 2 none]], AObj.mp true [], AObj.rows true 2 [[str tann, str thi], [str tann, str tho]]]
abbrev z1PI  : AState := [AObj.rows false 2 [[map 1, map 2]], AObj.mq [] [(agg [str tw, str tc], ptr 3 2 0 0)] [], AObj.mp true [], AObj.rows false 2 [[map 4, slc true 5 2 0 0 none]], AObj.mp true [(str tann, tt true)], AObj.rows true 2 []]
abbrev z2PI  : AState := [AObj.rows false 2 [[map 1, map 2]], AObj.mq [] [(agg [str tw, str tc], ptr 3 2 0 0)] [], AObj.mp true [], AObj.rows false 2 [[map 4, slc true 5 2 0 0 none]], AObj.mp true [], AObj.rows true 2 []]
abbrev z3PI  : AState := [AObj.rows false 2 [[map 1, map 2]], AObj.mq [] [(agg [str tw, str tc], ptr 3 2 0 0)] [], AObj.mp true [(str tann, tt true)], AObj.rows false 2 [[map 4, slc false 10 2 0 2 none]], AObj.mp true [], AObj.dead, AObj.rows false 3 [[iqPI 0, iqPI 0, fsl true 2 [] none]], AObj.rows false 3 [[iqPI 0, iqPI 0, fsl true 2 [] none]], AObj.dead, AObj.rows false 3 [[iqPI 0, iqPI 0, fsl true 2 [] none]], AObj.rows true 2 [[str tann, str thi], [str tann, str tho]], AObj.rows false 3 [[iqPI 0, iqPI 1, fsl true 2 [] none]], AObj.rows false 3 [[iqPI 0, iqPI 0, fsl true 2 [] none]]]
abbrev z4PI  : AState := [AObj.rows false 2 [[map 1, map 2]], AObj.mq [] [(agg [str tw, str tc], ptr 3 2 0 0)] [], AObj.mp true [], AObj.rows false 2 [[map 4, slc false 5 2 0 2 none]], AObj.mp true [(str tann, tt true)], AObj.rows true 2 [[str tann, str thi], [str tann, str tho]]]
abbrev z5PI  : AState := [AObj.rows false 2 [[map 1, map 2]], AObj.mq [] [(agg [str tw, str tc], ptr 3 2 0 0)] [], AObj.mp true [], AObj.rows false 2 [[map 4, slc false 5 2 0 1 none]], AObj.mp true [(str tann, tt true)], AObj.rows true 2 [[str tann, str thi]]]
abbrev z6PI  : List AVal := [ptr 0 2 0 0, agg [iqPI 2, str (ByteArray.mk #[119]), str (ByteArray.mk #[99]), str (ByteArray.mk #[97, 110, 110]), str bqPI, str bqPI, str bqPI, iqPI 0, iqPI 0]]
abbrev z7PI  : AState := [AObj.rows false 2 [[map 1, map 2]], AObj.mq [] [(agg [str tw, str tc], ptr 3 2 0 0)] [], AObj.mp true [], AObj.rows false 2 [[map 4, slc false 8 2 0 1 none]], AObj.mp true [(str tann, tt true)], AObj.dead, AObj.rows false 3 [[iqPI 0, iqPI 0, fsl true 2 [] none]], AObj.rows false 3 [[iqPI 0, iqPI 0, fsl true 2 [] none]], AObj.rows true 2 [[str tann, str thi]], AObj.rows false 3 [[iqPI 0, iqPI 0, fsl true 2 [] none]]]
abbrev z8PI  : List AVal := [ptr 0 2 0 0, agg [iqPI 1, str (ByteArray.mk #[119]), str (ByteArray.mk #[99]), str bqPI, str bqPI, str bqPI, str bqPI, iqPI 0, iqPI 0]]
abbrev z9PI  : AState := [AObj.rows false 2 [[map 1, map 2]], AObj.mq [] [] [], AObj.mp true []]
abbrev z10PI  : List AVal := [ptr 0 2 0 0, agg [iqPI 7, str bqPI, str bqPI, str (ByteArray.mk #[97, 110, 110]), str bqPI, str bqPI, str bqPI, iqPI 0, iqPI 0]]
abbrev z11PI  : AState := [AObj.rows false 2 [[map 1, map 2]], AObj.mq [] [(agg [str tw, str tc], ptr 3 2 0 0)] [], AObj.mp true [], AObj.rows false 2 [[map 4, slc true 5 2 0 0 none]], AObj.mp true [(str tann, tt true)], AObj.rows true 2 [], AObj.rows false 3 [[iqPI 0, iqPI 0, fsl true 2 [] none]], AObj.rows false 3 [[iqPI 0, iqPI 0, fsl true 2 [] none]]]
abbrev z12PI  : List AVal := [iqPI 3, str tw, str tc, str tann, str tno, str w0, str w0, iqPI 0, iqPI 0]
abbrev z13PI  : List AVal := [iqPI 3, str tw, str tc, str tann, str tho, str w0, str w0, iqPI 0, iqPI 0]
abbrev z14PI  : List AVal := [iqPI 3, str tw, str tc, str tann, str thi, str w0, str w0, iqPI 0, iqPI 0]
abbrev z15PI  : AState := [AObj.rows false 2 [[map 1, map 2]], AObj.mq [] [(agg [str tw, str tc], ptr 3 2 0 0)] [], AObj.mp true [], AObj.rows false 2 [[map 4, slc false 6 2 0 2 none]], AObj.mp true [(str tann, tt true)], AObj.dead, AObj.rows true 2 [[str tann, str thi], [str tann, str tho]]]
abbrev z16PI (x : ByteArray) : List AVal := [iqPI 3, str (ByteArray.mk #[119]), str (ByteArray.mk #[99]), str (ByteArray.mk #[97, 110, 110]), str x, str bqPI, str bqPI, iqPI 0, iqPI 0]
abbrev z17PI  : AState := [AObj.rows false 2 [[map 1, map 2]], AObj.mq [] [(agg [str tw, str tc], ptr 3 2 0 0)] [], AObj.mp true [], AObj.rows false 2 [[map 4, slc false 6 2 0 1 none]], AObj.mp true [(str tann, tt true)], AObj.dead, AObj.rows true 2 [[str tann, str thi]]]
theorem pos_1 (x : ByteArray) :
    FOk pgPI 15 ([str x]) ([]) (agg (z16PI x)) ([]) :=
  (evalF_ok followed Tryd.func15 (by kernel_rfl) (show evalF pgPI Tryd.f15 ([str x]) ([]) ([]) = .ok (FRes.mk (agg (z16PI x)) ([rzPI true 9 [(z16PI x)]]) (tr 5 ++ [])) by kernel_rfl) (allP_of (trC 5 trivial))).move ([]) (by kernel_rfl) (by kernel_rfl) (by kernel_rfl)

def pos_T (x : ByteArray) (Q : AVal → AState → Prop) : Prop := Q (AVal.agg [AVal.int IntKind.i64 3, AVal.str (ByteArray.mk #[119]), AVal.str (ByteArray.mk #[99]), AVal.str (ByteArray.mk #[97, 110, 110]), AVal.str x, AVal.str (ByteArray.mk #[]), AVal.str (ByteArray.mk #[]), AVal.int IntKind.i64 0, AVal.int IntKind.i64 0]) ([])
theorem pos_wp (x : ByteArray) {Q : AVal → AState → Prop} (h : pos_T x Q) : ∃ r σ', FOk pgPI 15 ([str x]) ([]) r σ' ∧ Q r σ' :=
  ⟨_, _, pos_1 x, h⟩


theorem awk_1
    (h1 : FOk pgPI 13 [ptr 0 2 0 0, agg (z12PI)] (z0PI) (agg [iqPI 92, iqPI 0, fsl true 2 [] none]) (z0PI))
    (h2 : FOk pgPI 15 [str (ByteArray.mk #[110, 111])] [] (agg (z12PI)) [])
    (h3 : FOk pgPI 13 (z10PI) (z4PI) (agg [iqPI 0, iqPI 0, fsl true 2 [] none]) (z0PI))
    (h4 : FOk pgPI 13 [ptr 0 2 0 0, agg (z13PI)] (z5PI) (agg [iqPI 0, iqPI 1, fsl true 2 [] none]) (z15PI))
    (h5 : FOk pgPI 15 [str (ByteArray.mk #[104, 111])] [] (agg (z13PI)) [])
    (h6 : FOk pgPI 13 [ptr 0 2 0 0, agg (z14PI)] (z1PI) (agg [iqPI 0, iqPI 0, fsl true 2 [] none]) (z17PI))
    (h7 : FOk pgPI 15 [str (ByteArray.mk #[104, 105])] [] (agg (z14PI)) [])
    (h8 : FOk pgPI 13 (z6PI) (z2PI) (agg [iqPI 0, iqPI 0, fsl true 2 [] none]) (z1PI))
    (h9 : FOk pgPI 13 (z8PI) (z9PI) (agg [iqPI 0, iqPI 0, fsl true 2 [] none]) (z2PI))
    (h10 : FOk pgPI 12 [] [] (ptr 0 2 0 0) (z9PI)) :
    FOk pgPI 14 ([]) ([]) (bool true) ([]) :=
  (evalF_ok followed Tryd.func14 (by kernel_rfl) (show evalF pgPI Tryd.f14 ([]) ([]) ([use [] [] [] (ptr 0 2 0 0) (H3 [] []), br false, use [0, 1, 2] (z8PI) (z9PI) okr (H6 [] [] tw tc [] [] true []), use [0, 1, 2, 3, 4, 5] (z6PI) (z2PI) okr (H6 [] [] tw tc [] mA true []), use [] [str (ByteArray.mk #[104, 105])] [] (opw 3 tw tc tann thi w0 w0 0 0) [], use [0, 1, 2, 3, 4, 5] [ptr 0 2 0 0, agg (z14PI)] (z1PI) okr (P1 mA [pst thi] 1), use [] [str (ByteArray.mk #[104, 111])] [] (opw 3 tw tc tann tho w0 w0 0 0) [], use [0, 1, 2, 3, 4, 8] [ptr 0 2 0 0, agg (z13PI)] (z5PI) (rep 0 1 nilps) (P1 mA [pst thi, pst tho] 2), use [0, 1, 2, 3, 4, 10] (z10PI) (z4PI) okr (H6 [] [] tw tc [gm tann] [] false [pst thi, pst tho]), use [] [str (ByteArray.mk #[110, 111])] [] (opw 3 tw tc tann tno w0 w0 0 0) [], use [0, 1, 2, 3, 4, 10] [ptr 0 2 0 0, agg (z12PI)] (z0PI) (rep 92 0 nilps) (H6 [] [] tw tc [gm tann] [] false [pst thi, pst tho]), br true, br true, br true, br true, br true, br true]) = .ok (FRes.mk (bool true) ([rzPI false 2 [[map 1, map 2]], mq [] [(agg [str tw, str tc], ptr 3 2 0 0)] [], mp true [(str tann, tt true)], rzPI false 2 [[map 4, slc false 10 2 0 2 none]], mp true [], dead, rzPI false 3 [[iqPI 0, iqPI 0, fsl true 2 [] none]], rzPI false 3 [[iqPI 0, iqPI 0, fsl true 2 [] none]], dead, rzPI false 3 [[iqPI 0, iqPI 0, fsl true 2 [] none]], rzPI true 2 [[str tann, str thi], [str tann, str tho]], rzPI false 3 [[iqPI 0, iqPI 1, fsl true 2 [] none]], rzPI false 3 [[iqPI 0, iqPI 0, fsl true 2 [] none]], rzPI false 3 [[iqPI 92, iqPI 0, fsl true 2 [] none]]]) (tr 22 ++ ((Owed.use (owed pgPI 0) 13 [0, 1, 2, 3, 4, 10] [ptr 0 2 0 0, agg (z12PI)] (z3PI) [ptr 0 2 0 0, agg (z12PI)] (z0PI) (agg [iqPI 92, iqPI 0, fsl true 2 [] none]) (z0PI)) :: ((Owed.use (owed pgPI 0) 15 [] [str (ByteArray.mk #[110, 111])] (z3PI) [str (ByteArray.mk #[110, 111])] [] (agg (z12PI)) []) :: (tr 2 ++ ((Owed.use (owed pgPI 0) 13 [0, 1, 2, 3, 4, 10] (z10PI) [rzPI false 2 [[map 1, map 2]], mq [] [(agg [str tw, str tc], ptr 3 2 0 0)] [], mp true [], rzPI false 2 [[map 4, slc false 10 2 0 2 none]], mp true [(str tann, tt true)], dead, rzPI false 3 [[iqPI 0, iqPI 0, fsl true 2 [] none]], rzPI false 3 [[iqPI 0, iqPI 0, fsl true 2 [] none]], dead, rzPI false 3 [[iqPI 0, iqPI 0, fsl true 2 [] none]], rzPI true 2 [[str tann, str thi], [str tann, str tho]], rzPI false 3 [[iqPI 0, iqPI 1, fsl true 2 [] none]]] (z10PI) (z4PI) (agg [iqPI 0, iqPI 0, fsl true 2 [] none]) (z0PI)) :: (tr 2 ++ ((Owed.use (owed pgPI 0) 13 [0, 1, 2, 3, 4, 8] [ptr 0 2 0 0, agg (z13PI)] (z7PI) [ptr 0 2 0 0, agg (z13PI)] (z5PI) (agg [iqPI 0, iqPI 1, fsl true 2 [] none]) (z15PI)) :: ((Owed.use (owed pgPI 0) 15 [] [str (ByteArray.mk #[104, 111])] (z7PI) [str (ByteArray.mk #[104, 111])] [] (agg (z13PI)) []) :: (tr 2 ++ ((Owed.use (owed pgPI 0) 13 [0, 1, 2, 3, 4, 5] [ptr 0 2 0 0, agg (z14PI)] (z11PI) [ptr 0 2 0 0, agg (z14PI)] (z1PI) (agg [iqPI 0, iqPI 0, fsl true 2 [] none]) (z17PI)) :: ((Owed.use (owed pgPI 0) 15 [] [str (ByteArray.mk #[104, 105])] (z11PI) [str (ByteArray.mk #[104, 105])] [] (agg (z14PI)) []) :: (tr 2 ++ ((Owed.use (owed pgPI 0) 13 [0, 1, 2, 3, 4, 5] (z6PI) [rzPI false 2 [[map 1, map 2]], mq [] [(agg [str tw, str tc], ptr 3 2 0 0)] [], mp true [], rzPI false 2 [[map 4, slc true 5 2 0 0 none]], mp true [], rzPI true 2 [], rzPI false 3 [[iqPI 0, iqPI 0, fsl true 2 [] none]]] (z6PI) (z2PI) (agg [iqPI 0, iqPI 0, fsl true 2 [] none]) (z1PI)) :: (tr 2 ++ ((Owed.use (owed pgPI 0) 13 [0, 1, 2] (z8PI) (z9PI) (z8PI) (z9PI) (agg [iqPI 0, iqPI 0, fsl true 2 [] none]) (z2PI)) :: ((false = false) :: ((Owed.use (owed pgPI 0) 12 [] [] [] [] [] (ptr 0 2 0 0) (z9PI)) :: [])))))))))))))))))) by kernel_rfl) (allP_of (trC 22 ⟨⟨h1, rfl, rfl, rfl⟩, ⟨⟨h2, rfl, rfl, rfl⟩, (trC 2 ⟨⟨h3, rfl, rfl, rfl⟩, (trC 2 ⟨⟨h4, rfl, rfl, rfl⟩, ⟨⟨h5, rfl, rfl, rfl⟩, (trC 2 ⟨⟨h6, rfl, rfl, rfl⟩, ⟨⟨h7, rfl, rfl, rfl⟩, (trC 2 ⟨⟨h8, rfl, rfl, rfl⟩, (trC 2 ⟨⟨h9, rfl, rfl, rfl⟩, ⟨rfl, ⟨⟨h10, rfl, rfl, rfl⟩, trivial⟩⟩⟩)⟩)⟩⟩)⟩⟩)⟩)⟩⟩))).move ([]) (by kernel_rfl) (by kernel_rfl) (by kernel_rfl)

def awk_T (Q : AVal → AState → Prop) : Prop := (FOk Tryd.prog 12 [] [] (AVal.ptr 0 2 0 0) [AObj.rows false 2 [[AVal.map 1, AVal.map 2]], AObj.mq [] [] [], AObj.mp true []]) ∧ (FOk Tryd.prog 13 [AVal.ptr 0 2 0 0, AVal.agg [AVal.int IntKind.i64 1, AVal.str (ByteArray.mk #[119]), AVal.str (ByteArray.mk #[99]), AVal.str (ByteArray.mk #[]), AVal.str (ByteArray.mk #[]), AVal.str (ByteArray.mk #[]), AVal.str (ByteArray.mk #[]), AVal.int IntKind.i64 0, AVal.int IntKind.i64 0]] [AObj.rows false 2 [[AVal.map 1, AVal.map 2]], AObj.mq [] [] [], AObj.mp true []] (AVal.agg [AVal.int IntKind.i64 0, AVal.int IntKind.i64 0, AVal.fsl true 2 [] none]) [AObj.rows false 2 [[AVal.map 1, AVal.map 2]], AObj.mq [] [(AVal.agg [AVal.str tw, AVal.str tc], AVal.ptr 3 2 0 0)] [], AObj.mp true [], AObj.rows false 2 [[AVal.map 4, AVal.slc true 5 2 0 0 none]], AObj.mp true [], AObj.rows true 2 []]) ∧ (FOk Tryd.prog 13 [AVal.ptr 0 2 0 0, AVal.agg [AVal.int IntKind.i64 2, AVal.str (ByteArray.mk #[119]), AVal.str (ByteArray.mk #[99]), AVal.str (ByteArray.mk #[97, 110, 110]), AVal.str (ByteArray.mk #[]), AVal.str (ByteArray.mk #[]), AVal.str (ByteArray.mk #[]), AVal.int IntKind.i64 0, AVal.int IntKind.i64 0]] [AObj.rows false 2 [[AVal.map 1, AVal.map 2]], AObj.mq [] [(AVal.agg [AVal.str tw, AVal.str tc], AVal.ptr 3 2 0 0)] [], AObj.mp true [], AObj.rows false 2 [[AVal.map 4, AVal.slc true 5 2 0 0 none]], AObj.mp true [], AObj.rows true 2 []] (AVal.agg [AVal.int IntKind.i64 0, AVal.int IntKind.i64 0, AVal.fsl true 2 [] none]) [AObj.rows false 2 [[AVal.map 1, AVal.map 2]], AObj.mq [] [(AVal.agg [AVal.str tw, AVal.str tc], AVal.ptr 3 2 0 0)] [], AObj.mp true [], AObj.rows false 2 [[AVal.map 4, AVal.slc true 5 2 0 0 none]], AObj.mp true [(AVal.str tann, AVal.tt true)], AObj.rows true 2 []]) ∧ (FOk Tryd.prog 15 [AVal.str (ByteArray.mk #[104, 105])] [] (AVal.agg [AVal.int IntKind.i64 3, AVal.str tw, AVal.str tc, AVal.str tann, AVal.str thi, AVal.str w0, AVal.str w0, AVal.int IntKind.i64 0, AVal.int IntKind.i64 0]) []) ∧ (FOk Tryd.prog 13 [AVal.ptr 0 2 0 0, AVal.agg [AVal.int IntKind.i64 3, AVal.str tw, AVal.str tc, AVal.str tann, AVal.str thi, AVal.str w0, AVal.str w0, AVal.int IntKind.i64 0, AVal.int IntKind.i64 0]] [AObj.rows false 2 [[AVal.map 1, AVal.map 2]], AObj.mq [] [(AVal.agg [AVal.str tw, AVal.str tc], AVal.ptr 3 2 0 0)] [], AObj.mp true [], AObj.rows false 2 [[AVal.map 4, AVal.slc true 5 2 0 0 none]], AObj.mp true [(AVal.str tann, AVal.tt true)], AObj.rows true 2 []] (AVal.agg [AVal.int IntKind.i64 0, AVal.int IntKind.i64 0, AVal.fsl true 2 [] none]) [AObj.rows false 2 [[AVal.map 1, AVal.map 2]], AObj.mq [] [(AVal.agg [AVal.str tw, AVal.str tc], AVal.ptr 3 2 0 0)] [], AObj.mp true [], AObj.rows false 2 [[AVal.map 4, AVal.slc false 6 2 0 1 none]], AObj.mp true [(AVal.str tann, AVal.tt true)], AObj.dead, AObj.rows true 2 [[AVal.str tann, AVal.str thi]]]) ∧ (FOk Tryd.prog 15 [AVal.str (ByteArray.mk #[104, 111])] [] (AVal.agg [AVal.int IntKind.i64 3, AVal.str tw, AVal.str tc, AVal.str tann, AVal.str tho, AVal.str w0, AVal.str w0, AVal.int IntKind.i64 0, AVal.int IntKind.i64 0]) []) ∧ (FOk Tryd.prog 13 [AVal.ptr 0 2 0 0, AVal.agg [AVal.int IntKind.i64 3, AVal.str tw, AVal.str tc, AVal.str tann, AVal.str tho, AVal.str w0, AVal.str w0, AVal.int IntKind.i64 0, AVal.int IntKind.i64 0]] [AObj.rows false 2 [[AVal.map 1, AVal.map 2]], AObj.mq [] [(AVal.agg [AVal.str tw, AVal.str tc], AVal.ptr 3 2 0 0)] [], AObj.mp true [], AObj.rows false 2 [[AVal.map 4, AVal.slc false 5 2 0 1 none]], AObj.mp true [(AVal.str tann, AVal.tt true)], AObj.rows true 2 [[AVal.str tann, AVal.str thi]]] (AVal.agg [AVal.int IntKind.i64 0, AVal.int IntKind.i64 1, AVal.fsl true 2 [] none]) [AObj.rows false 2 [[AVal.map 1, AVal.map 2]], AObj.mq [] [(AVal.agg [AVal.str tw, AVal.str tc], AVal.ptr 3 2 0 0)] [], AObj.mp true [], AObj.rows false 2 [[AVal.map 4, AVal.slc false 6 2 0 2 none]], AObj.mp true [(AVal.str tann, AVal.tt true)], AObj.dead, AObj.rows true 2 [[AVal.str tann, AVal.str thi], [AVal.str tann, AVal.str tho]]]) ∧ (FOk Tryd.prog 13 [AVal.ptr 0 2 0 0, AVal.agg [AVal.int IntKind.i64 7, AVal.str (ByteArray.mk #[]), AVal.str (ByteArray.mk #[]), AVal.str (ByteArray.mk #[97, 110, 110]), AVal.str (ByteArray.mk #[]), AVal.str (ByteArray.mk #[]), AVal.str (ByteArray.mk #[]), AVal.int IntKind.i64 0, AVal.int IntKind.i64 0]] [AObj.rows false 2 [[AVal.map 1, AVal.map 2]], AObj.mq [] [(AVal.agg [AVal.str tw, AVal.str tc], AVal.ptr 3 2 0 0)] [], AObj.mp true [], AObj.rows false 2 [[AVal.map 4, AVal.slc false 5 2 0 2 none]], AObj.mp true [(AVal.str tann, AVal.tt true)], AObj.rows true 2 [[AVal.str tann, AVal.str thi], [AVal.str tann, AVal.str tho]]] (AVal.agg [AVal.int IntKind.i64 0, AVal.int IntKind.i64 0, AVal.fsl true 2 [] none]) [AObj.rows false 2 [[AVal.map 1, AVal.map 2]], AObj.mq [] [(AVal.agg [AVal.str tw, AVal.str tc], AVal.ptr 3 2 0 0)] [], AObj.mp true [(AVal.str tann, AVal.tt true)], AObj.rows false 2 [[AVal.map 4, AVal.slc false 5 2 0 2 none]], AObj.mp true [], AObj.rows true 2 [[AVal.str tann, AVal.str thi], [AVal.str tann, AVal.str tho]]]) ∧ (FOk Tryd.prog 15 [AVal.str (ByteArray.mk #[110, 111])] [] (AVal.agg [AVal.int IntKind.i64 3, AVal.str tw, AVal.str tc, AVal.str tann, AVal.str tno, AVal.str w0, AVal.str w0, AVal.int IntKind.i64 0, AVal.int IntKind.i64 0]) []) ∧ (FOk Tryd.prog 13 [AVal.ptr 0 2 0 0, AVal.agg [AVal.int IntKind.i64 3, AVal.str tw, AVal.str tc, AVal.str tann, AVal.str tno, AVal.str w0, AVal.str w0, AVal.int IntKind.i64 0, AVal.int IntKind.i64 0]] [AObj.rows false 2 [[AVal.map 1, AVal.map 2]], AObj.mq [] [(AVal.agg [AVal.str tw, AVal.str tc], AVal.ptr 3 2 0 0)] [], AObj.mp true [(AVal.str tann, AVal.tt true)], AObj.rows false 2 [[AVal.map 4, AVal.slc false 5 2 0 2 none]], AObj.mp true [], AObj.rows true 2 [[AVal.str tann, AVal.str thi], [AVal.str tann, AVal.str tho]]] (AVal.agg [AVal.int IntKind.i64 92, AVal.int IntKind.i64 0, AVal.fsl true 2 [] none]) [AObj.rows false 2 [[AVal.map 1, AVal.map 2]], AObj.mq [] [(AVal.agg [AVal.str tw, AVal.str tc], AVal.ptr 3 2 0 0)] [], AObj.mp true [(AVal.str tann, AVal.tt true)], AObj.rows false 2 [[AVal.map 4, AVal.slc false 5 2 0 2 none]], AObj.mp true [], AObj.rows true 2 [[AVal.str tann, AVal.str thi], [AVal.str tann, AVal.str tho]]]) ∧ Q (AVal.bool true) ([])
theorem awk_wp {Q : AVal → AState → Prop} (h : awk_T Q) : ∃ r σ', FOk pgPI 14 ([]) ([]) r σ' ∧ Q r σ' :=
  ⟨_, _, awk_1 (h.2.2.2.2.2.2.2.2.2.1) (h.2.2.2.2.2.2.2.2.1) (h.2.2.2.2.2.2.2.1) (h.2.2.2.2.2.2.1) (h.2.2.2.2.2.1) (h.2.2.2.2.1) (h.2.2.2.1) (h.2.2.1) (h.2.1) (h.1), h.2.2.2.2.2.2.2.2.2.2⟩


end Go.MN
end

section
set_option linter.unusedVariables false
set_option maxRecDepth 100000
namespace Go.MN
open Go Go.Abs Go.Proofs
abbrev vw : ByteArray := ⟨#[119]⟩
abbrev vc : ByteArray := ⟨#[99]⟩
end Go.MN
end

section
set_option linter.unusedVariables false
set_option linter.unusedSimpArgs false
set_option maxRecDepth 100000
namespace Go.MN
open Go Go.Abs Go.Proofs

def laysSort_ren : Go.Shelf.Ren := ⟨fun | 190 => 33 | 125 => 47 | 258 => 46 | 128 => 67 | 129 => 68 | 302 => 58 | 303 => 59 | 304 => 60 | 305 => 61 | 306 => 62 | 307 => 63 | 308 => 64 | 309 => 65 | 310 => 66 | 333 => 72 | 329 => 73 | 330 => 74 | 334 => 75 | 335 => 76 | 336 => 77 | 344 => 80 | n => n, fun | 31 => 25 | 9 => 9 | 3 => 3 | 46 => 94 | 0 => 0 | 51 => 111 | 53 => 113 | 4 => 4 | 183 => 103 | 182 => 102 | 131 => 108 | 5 => 5 | 218 => 121 | 222 => 125 | 228 => 129 | 229 => 130 | n => n, fun | n => n⟩
theorem laysSort : Go.Proofs.Lays.n190 Tryd.prog laysSort_ren where
  mixed := by kernel_rfl
  f125 := Tryd.func47.trans (congrArg some (by kernel_rfl))
  f128 := Tryd.func67.trans (congrArg some (by kernel_rfl))
  f129 := Tryd.func68.trans (congrArg some (by kernel_rfl))
  f190 := Tryd.func33.trans (congrArg some (by kernel_rfl))
  f258 := Tryd.func46.trans (congrArg some (by kernel_rfl))
  f302 := Tryd.func58.trans (congrArg some (by kernel_rfl))
  f303 := Tryd.func59.trans (congrArg some (by kernel_rfl))
  f304 := Tryd.func60.trans (congrArg some (by kernel_rfl))
  f305 := Tryd.func61.trans (congrArg some (by kernel_rfl))
  f306 := Tryd.func62.trans (congrArg some (by kernel_rfl))
  f307 := Tryd.func63.trans (congrArg some (by kernel_rfl))
  f308 := Tryd.func64.trans (congrArg some (by kernel_rfl))
  f309 := Tryd.func65.trans (congrArg some (by kernel_rfl))
  f310 := Tryd.func66.trans (congrArg some (by kernel_rfl))
  f329 := Tryd.func73.trans (congrArg some (by kernel_rfl))
  f330 := Tryd.func74.trans (congrArg some (by kernel_rfl))
  f333 := Tryd.func72.trans (congrArg some (by kernel_rfl))
  f334 := Tryd.func75.trans (congrArg some (by kernel_rfl))
  f335 := Tryd.func76.trans (congrArg some (by kernel_rfl))
  f336 := Tryd.func77.trans (congrArg some (by kernel_rfl))
  f344 := Tryd.func80.trans (congrArg some (by kernel_rfl))
  t0 := Tryd.underlying0
  a0 := Tryd.isAgg0
  z0 := Tryd.sizeOf0
  v0 := Tryd.zeroValue0
  t3 := Tryd.underlying3
  a3 := Tryd.isAgg3
  z3 := Tryd.sizeOf3
  v3 := Tryd.zeroValue3
  t4 := Tryd.underlying4
  a4 := Tryd.isAgg4
  z4 := Tryd.sizeOf4
  v4 := Tryd.zeroValue4
  t5 := Tryd.underlying5
  a5 := Tryd.isAgg5
  z5 := Tryd.sizeOf5
  v5 := Tryd.zeroValue5
  t9 := Tryd.underlying9
  a9 := Tryd.isAgg9
  z9 := Tryd.sizeOf9
  v9 := Tryd.zeroValue9
  t31 := Tryd.underlying25
  a31 := Tryd.isAgg25
  z31 := Tryd.sizeOf25
  v31 := Tryd.zeroValue25
  t46 := Tryd.underlying94
  a46 := Tryd.isAgg94
  z46 := Tryd.sizeOf94
  v46 := Tryd.zeroValue94
  t51 := Tryd.underlying111
  a51 := Tryd.isAgg111
  z51 := Tryd.sizeOf111
  v51 := Tryd.zeroValue111
  t53 := Tryd.underlying113
  a53 := Tryd.isAgg113
  z53 := Tryd.sizeOf113
  v53 := Tryd.zeroValue113
  t131 := Tryd.underlying108
  a131 := Tryd.isAgg108
  z131 := Tryd.sizeOf108
  v131 := Tryd.zeroValue108
  t182 := Tryd.underlying102
  a182 := Tryd.isAgg102
  z182 := Tryd.sizeOf102
  v182 := Tryd.zeroValue102
  t183 := Tryd.underlying103
  a183 := Tryd.isAgg103
  z183 := Tryd.sizeOf103
  v183 := Tryd.zeroValue103
  t218 := Tryd.underlying121
  a218 := Tryd.isAgg121
  z218 := Tryd.sizeOf121
  v218 := Tryd.zeroValue121
  t222 := Tryd.underlying125
  a222 := Tryd.isAgg125
  z222 := Tryd.sizeOf125
  v222 := Tryd.zeroValue125
  t228 := Tryd.underlying129
  a228 := Tryd.isAgg129
  z228 := Tryd.sizeOf129
  v228 := Tryd.zeroValue129
  t229 := Tryd.underlying130
  a229 := Tryd.isAgg130
  z229 := Tryd.sizeOf130
  v229 := Tryd.zeroValue130

abbrev bx (l : List UInt8) : ByteArray := ⟨l.toArray⟩
theorem sort_ok (ss : List (List UInt8)) (hne : ss ≠ []) (hs : ss.length < 4611686018427387904) :
    FOk Tryd.prog 33 [.slc false 0 1 0 ss.length none] [.rows true 1 (ss.map fun x => [.str (bx x)])] (.tuple []) [.rows true 1 ((ss.mergeSort fun x y => decide (x ≤ y)).map fun x => [.str (bx x)])] :=
  FOk.inRow encStr (fun x => .str (bx x)) (fun F w ρ x c h => h.str_inv) (fun F w x => .str _ _) ⟨_, _, rfl, by decide, rfl⟩ ss _ (by simp) hne fun blk cap w hH hb => Any.slices_Sort_string laysSort blk 0 cap ss w hH hb hs

theorem me6_loop (pre post : Ents) (s c : ByteArray) (off : List (AVal × AVal)) (us : List ByteArray) (bs : List Nat) (k : Nat) (ff : Bool) (ps : List (List AVal)) (hb : BRL bs k) (hl : bs.length = us.length) (hu : us.length ≤ 1000) :
    TripN Tryd.prog 6 (.loop (loopNo Tryd.f16 0)) (mkR 38 [(10, .slc true 6 1 0 0 none), (26, .ptr 7 1 0 0)]) (M6 pre post s c off us bs k ff ps ++ [.rows true 1 [], .miter (some 4) k [] k]) (.exit 0)
      (mkR 38 [(10, .slc us.isEmpty 6 1 0 us.length none)]) (M6 pre post s c off us bs k ff ps ++ [.bag 1 (us.map fun u => [.str u]), .dead]) := by
  let I : List Nat → Regs → AState → Prop := fun seen rg σ => seen.Nodup ∧ (∀ b ∈ seen, b ∈ bs) ∧ ∃ f rs, f = seen.isEmpty ∧ rs = (seen.map (pickB us bs w0)).map (fun u => [AVal.str u]) ∧
    rg = mkR 38 [(10, .slc f 6 1 0 rs.length none), (26, .ptr 7 1 0 0)] ∧ σ = M6 pre post s c off us bs k ff ps ++ [.rows true 1 rs, .miter (some 4) k seen k]
  have hL := mapLoop (P := Tryd.prog) (N := 6) (c := loopNo Tryd.f16 0) (rest := restOf (loopNo Tryd.f16 0)) (Post := fun e rg σ => e = .exit 0 ∧ ∃ seen, seen.Nodup ∧ (∀ b ∈ seen, b ∈ bs) ∧ (∀ b ∈ bs, b ∈ seen) ∧ ∃ f rs, f = seen.isEmpty ∧ rs = (seen.map (pickB us bs w0)).map (fun u => [AVal.str u]) ∧
      rg = mkR 38 [(10, .slc f 6 1 0 rs.length none), (26, .ptr 7 1 0 0)] ∧ σ = M6 pre post s c off us bs k ff ps ++ [.rows true 1 rs, .miter (some 4) k seen k]) rfl bs I ?_ _ _ [] ⟨List.nodup_nil, by simp, true, [], rfl, rfl, rfl, rfl⟩
  · refine (RunD.trip ((LoopD.runD hL).out ?_))
    rintro e rg σ ⟨rfl, seen, h1, h2, h3, f, rs, h4, h5, rfl, rfl⟩
    have hp := pick_perm w0 hb hl h1 h2 h3
    have hse : seen.isEmpty = us.isEmpty := by
      have := hp.length_eq
      rw [List.length_map] at this
      cases seen <;> cases us <;> first | rfl | simp at this
    rw [hse] at h4
    subst h4
    have hlen : rs.length = us.length := by rw [h5]; simp; rw [← hp.length_eq]; simp
    refine ⟨mkR 38 [(10, .slc us.isEmpty 6 1 0 us.length none)], _, ?_, rfl, rfl, rfl⟩
    refine Weak.trans (Weak.bagged (id := 6) (es := 1) (rs := us.map fun u => [AVal.str u]) rfl (by rw [h5]; exact hp.map _)) ?_
    refine Weak.trans (Weak.kill (id := 7) rfl) ?_
    rw [hlen]
    refine Weak.regs ?_
    exact keepR_imp (keepM 38 [10]) _
  · rintro seen rg σ ⟨h1, h2, f, rs, h4, h5, rfl, rfl⟩
    refine ⟨7, 1, 4, k, true, us.map gm, bs, rfl, rfl, rfl, (by show 27 < 38; decide), fun b hb => hb, fun b hb1 hb2 => RunD.of (me6B_wp pre post s c off us bs (seen ++ [b]) k ff ps (pickB us bs w0 b) f rs ?_), fun hall => RunD.of (me6X_wp pre post s c off us bs seen k ff ps f rs ?_)⟩
    · unfold me6B_T
      have hrl : rs.length ≤ 1000 := by
        rw [h5]; simp
        exact Nat.le_trans (nodup_le h1 h2) (by omega)
      rw [entV_pick gm w0 us bs seen b hl hb1]
      refine ⟨rfl, rfl, decide_eq_true (by omega), .inl ⟨rfl, nodup_snoc h1 hb2, fun x hx => ?_, false, rs ++ [[.str (pickB us bs w0 b)]], by simp, by rw [h5]; simp, ?_, rfl⟩⟩
      · rcases List.mem_append.1 hx with hx | hx
        · exact h2 x hx
        · simp at hx; subst hx; exact hb1
      · rw [Bool.and_false, List.length_append]; rfl
    · unfold me6X_T
      exact ⟨by simp, rfl, seen, h1, h2, hall, f, rs, h4, h5, rfl, rfl⟩


theorem offs_loop (s y : ByteArray) (off mem : List (AVal × AVal)) (b c : Nat) (u : ByteArray) (ps : List (List AVal)) (f : Bool) (hm : (mem.all fun p => keyKind Tryd.prog 9 p.1) = true) :
    TripN Tryd.prog 6 (.loop (loopNo Tryd.f13 0)) RO (HO [(ky s y, .ptr 3 2 0 0)] off mem [b] c [] u ps f) (.exit 1) RO (HO [(ky s y, .ptr 3 2 0 0)] off (adel (.str u) mem) [b] c [b] u ps f) := by
  let I : List Nat → Regs → AState → Prop := fun seen rg σ => (seen = [] ∧ rg = RO ∧ σ = HO [(ky s y, .ptr 3 2 0 0)] off mem [b] c [] u ps f) ∨ (seen = [b] ∧ rg = RO ∧ σ = HO [(ky s y, .ptr 3 2 0 0)] off (adel (.str u) mem) [b] c [b] u ps f)
  have hL := mapLoop (P := Tryd.prog) (N := 6) (c := loopNo Tryd.f13 0) (rest := restOf (loopNo Tryd.f13 0)) (Post := fun e rg σ => e = .exit 1 ∧ rg = RO ∧ σ = HO [(ky s y, .ptr 3 2 0 0)] off (adel (.str u) mem) [b] c [b] u ps f) rfl [b] I ?_ _ _ [] (.inl ⟨rfl, rfl, rfl⟩)
  · exact RunD.trip (LoopD.runD hL)
  · rintro seen rg σ (⟨rfl, rfl, rfl⟩ | ⟨rfl, rfl, rfl⟩)
    · refine ⟨8, 1, 1, c, false, _, [b], rfl, rfl, rfl, (by show 78 < 97; decide), fun b hb => hb, fun b' hb1 hb2 => ?_, fun hall => absurd (hall b (by simp)) (by simp)⟩
      obtain rfl : b' = b := by simpa using hb1
      refine RunD.of (offB_wp s y off mem b' c u ps f ?_)
      unfold offB_T
      refine ⟨?_, ?_, hm, .inl ⟨rfl, .inr ⟨rfl, rfl, rfl⟩⟩⟩ <;> simp [entV, entAt]
    · refine ⟨8, 1, 1, c, false, _, [b], rfl, rfl, rfl, (by show 78 < 97; decide), fun b hb => hb, fun b' hb1 hb2 => absurd hb1 hb2, fun hall => ?_⟩
      refine RunD.of (offX_wp s y off (adel (.str u) mem) b c u ps f ?_)
      unfold offX_T
      exact ⟨by simp, rfl, rfl, rfl⟩
end Go.MN
end

section
set_option linter.unusedVariables false
set_option maxRecDepth 100000
namespace Go.MN
open Go Go.Abs Go.Proofs
abbrev iqPT : Int → AVal := AVal.int IntKind.i64
open Go.Abs.AVal (str agg ptr slc fsl tuple nilp)
open Go.Abs.Dec (br use)
open Go.Abs.AExit (normal)
open Go.Abs.AObj (mp mq dead)
theorem l64_1 :
    FOk Tryd.prog 68 ([AVal.int IntKind.u64 0]) ([]) (iqPT 0) ([]) :=
  (evalF_ok followed Tryd.func68 (by kernel_rfl) (show evalF Tryd.prog Tryd.f68 ([AVal.int IntKind.u64 0]) ([]) ([br false, br false, br false]) = .ok (FRes.mk (iqPT 0) ([]) (tr 1 ++ ((false = false) :: ((false = false) :: ((false = false) :: []))))) by kernel_rfl) (allP_of (trC 1 ⟨rfl, ⟨rfl, ⟨rfl, trivial⟩⟩⟩))).move ([]) (by kernel_rfl) (by kernel_rfl) (by kernel_rfl)

def l64_T (Q : AVal → AState → Prop) : Prop := Q (AVal.int IntKind.i64 0) ([])
theorem l64_wp {Q : AVal → AState → Prop} (h : l64_T Q) : ∃ r σ', FOk Tryd.prog 68 ([AVal.int IntKind.u64 0]) ([]) r σ' ∧ Q r σ' :=
  ⟨_, _, l64_1, h⟩


theorem l0_1
    (h1 : FOk Tryd.prog 68 [AVal.int IntKind.u64 0] [] (iqPT 0) []) :
    FOk Tryd.prog 47 ([AVal.int IntKind.u64 0]) ([]) (iqPT 0) ([]) :=
  (evalF_ok followed Tryd.func47 (by kernel_rfl) (show evalF Tryd.prog Tryd.f47 ([AVal.int IntKind.u64 0]) ([]) ([use [] [AVal.int IntKind.u64 0] [] (iqPT 0) []]) = .ok (FRes.mk (iqPT 0) ([]) ((Owed.use (owed Tryd.prog 0) 68 [] [AVal.int IntKind.u64 0] [] [AVal.int IntKind.u64 0] [] (iqPT 0) []) :: [])) by kernel_rfl) (allP_of ⟨⟨h1, rfl, rfl, rfl⟩, trivial⟩)).move ([]) (by kernel_rfl) (by kernel_rfl) (by kernel_rfl)

def l0_T (Q : AVal → AState → Prop) : Prop := (FOk Tryd.prog 68 [AVal.int IntKind.u64 0] [] (AVal.int IntKind.i64 0) []) ∧ Q (AVal.int IntKind.i64 0) ([])
theorem l0_wp {Q : AVal → AState → Prop} (h : l0_T Q) : ∃ r σ', FOk Tryd.prog 47 ([AVal.int IntKind.u64 0]) ([]) r σ' ∧ Q r σ' :=
  ⟨_, _, l0_1 (h.1), h.2⟩


theorem is0_1 :
    FOk Tryd.prog 58 ([slc true 0 1 0 0 none, iqPT 0, iqPT 0]) ([AObj.bag 1 []]) (tuple []) ([AObj.bag 1 []]) :=
  (evalF_ok followed Tryd.func58 (by kernel_rfl) (show evalF Tryd.prog Tryd.f58 ([slc true 0 1 0 0 none, iqPT 0, iqPT 0]) ([AObj.bag 1 []]) ([Dec.unroll 1, br false]) = .ok (FRes.mk (tuple []) ([AObj.bag 1 []]) ((false = false) :: [])) by kernel_rfl) (allP_of ⟨rfl, trivial⟩)).move ([0]) (by kernel_rfl) (by kernel_rfl) (by kernel_rfl)

def is0_T (Q : AVal → AState → Prop) : Prop := Q (AVal.tuple []) ([AObj.bag 1 []])
theorem is0_wp {Q : AVal → AState → Prop} (h : is0_T Q) : ∃ r σ', FOk Tryd.prog 58 ([slc true 0 1 0 0 none, iqPT 0, iqPT 0]) ([AObj.bag 1 []]) r σ' ∧ Q r σ' :=
  ⟨_, _, is0_1, h⟩


theorem pq0_1
    (h1 : FOk Tryd.prog 58 [slc true 0 1 0 0 none, iqPT 0, iqPT 0] [AObj.bag 1 []] (tuple []) [AObj.bag 1 []]) :
    FOk Tryd.prog 46 ([slc true 0 1 0 0 none, iqPT 0, iqPT 0, iqPT 0]) ([AObj.bag 1 []]) (tuple []) ([AObj.bag 1 []]) :=
  (evalF_ok followed Tryd.func46 (by kernel_rfl) (show evalF Tryd.prog Tryd.f46 ([slc true 0 1 0 0 none, iqPT 0, iqPT 0, iqPT 0]) ([AObj.bag 1 []]) ([Dec.unroll 1, br true, use [0] [slc true 0 1 0 0 none, iqPT 0, iqPT 0] [AObj.bag 1 []] (tuple []) [AObj.bag 1 []]]) = .ok (FRes.mk (tuple []) ([AObj.bag 1 []]) ((Owed.use (owed Tryd.prog 1) 58 [0] [slc true 0 1 0 0 none, iqPT 0, iqPT 0] [AObj.bag 1 []] [slc true 0 1 0 0 none, iqPT 0, iqPT 0] [AObj.bag 1 []] (tuple []) [AObj.bag 1 []]) :: (tr 1 ++ []))) by kernel_rfl) (allP_of ⟨⟨h1, rfl, rfl, rfl⟩, (trC 1 trivial)⟩)).move ([0]) (by kernel_rfl) (by kernel_rfl) (by kernel_rfl)

def pq0_T (Q : AVal → AState → Prop) : Prop := (FOk Tryd.prog 58 [AVal.slc true 0 1 0 0 none, AVal.int IntKind.i64 0, AVal.int IntKind.i64 0] [AObj.bag 1 []] (AVal.tuple []) [AObj.bag 1 []]) ∧ Q (AVal.tuple []) ([AObj.bag 1 []])
theorem pq0_wp {Q : AVal → AState → Prop} (h : pq0_T Q) : ∃ r σ', FOk Tryd.prog 46 ([slc true 0 1 0 0 none, iqPT 0, iqPT 0, iqPT 0]) ([AObj.bag 1 []]) r σ' ∧ Q r σ' :=
  ⟨_, _, pq0_1 (h.1), h.2⟩


theorem so0_1
    (h1 : FOk Tryd.prog 46 [slc true 0 1 0 0 none, iqPT 0, iqPT 0, iqPT 0] [AObj.bag 1 []] (tuple []) [AObj.bag 1 []])
    (h2 : FOk Tryd.prog 47 [AVal.int IntKind.u64 0] [] (iqPT 0) []) :
    FOk Tryd.prog 33 ([slc true 0 1 0 0 none]) ([AObj.bag 1 []]) (tuple []) ([AObj.bag 1 []]) :=
  (evalF_ok followed Tryd.func33 (by kernel_rfl) (show evalF Tryd.prog Tryd.f33 ([slc true 0 1 0 0 none]) ([AObj.bag 1 []]) ([use [] [AVal.int IntKind.u64 0] [] (iqPT 0) [], use [0] [slc true 0 1 0 0 none, iqPT 0, iqPT 0, iqPT 0] [AObj.bag 1 []] (tuple []) [AObj.bag 1 []]]) = .ok (FRes.mk (tuple []) ([AObj.bag 1 []]) ((Owed.use (owed Tryd.prog 1) 46 [0] [slc true 0 1 0 0 none, iqPT 0, iqPT 0, iqPT 0] [AObj.bag 1 []] [slc true 0 1 0 0 none, iqPT 0, iqPT 0, iqPT 0] [AObj.bag 1 []] (tuple []) [AObj.bag 1 []]) :: ((Owed.use (owed Tryd.prog 1) 47 [] [AVal.int IntKind.u64 0] [AObj.bag 1 []] [AVal.int IntKind.u64 0] [] (iqPT 0) []) :: []))) by kernel_rfl) (allP_of ⟨⟨h1, rfl, rfl, rfl⟩, ⟨⟨h2, rfl, rfl, rfl⟩, trivial⟩⟩)).move ([0]) (by kernel_rfl) (by kernel_rfl) (by kernel_rfl)

def so0_T (Q : AVal → AState → Prop) : Prop := (FOk Tryd.prog 47 [AVal.int IntKind.u64 0] [] (AVal.int IntKind.i64 0) []) ∧ (FOk Tryd.prog 46 [AVal.slc true 0 1 0 0 none, AVal.int IntKind.i64 0, AVal.int IntKind.i64 0, AVal.int IntKind.i64 0] [AObj.bag 1 []] (AVal.tuple []) [AObj.bag 1 []]) ∧ Q (AVal.tuple []) ([AObj.bag 1 []])
theorem so0_wp {Q : AVal → AState → Prop} (h : so0_T Q) : ∃ r σ', FOk Tryd.prog 33 ([slc true 0 1 0 0 none]) ([AObj.bag 1 []]) r σ' ∧ Q r σ' :=
  ⟨_, _, so0_1 (h.2.1) (h.1), h.2.2⟩


end Go.MN
end

section
set_option linter.unusedVariables false
set_option linter.unusedSimpArgs false
set_option maxRecDepth 100000
namespace Go.MN
open Go Go.Abs Go.Proofs
theorem doO1 (s y u : ByteArray) (us : List ByteArray) (f : Bool) (ps : List (List AVal)) (hne : s ≠ w0) (ck : FOk Tryd.prog 21 [opw 7 w0 w0 u w0 w0 w0 0 0] [] (.int .i64 0) []) :
    FOk Tryd.prog 13 [.ptr 0 2 0 0, opw 7 w0 w0 u w0 w0 w0 0 0] (H6 [] [] s y [] (gms us) f ps) (rep 0 0 nilps) (H6 [] [] s y [gm u] (gms (us.erase u)) f ps) := by
  refine mq1 (id := 1) (own := [(ky s y, .ptr 3 2 0 0)]) ?_ rfl
  refine FOk.born (id := 1) (p := false) (ents := [(ky s y, .ptr 3 2 0 0)]) rfl fun bs c hb hl => ?_
  obtain ⟨b, rfl⟩ : ∃ b, bs = [b] := by
    match bs, hl with
    | [b], _ => exact ⟨b, rfl⟩
  have h : FOk Tryd.prog 13 [.ptr 0 2 0 0, opw 7 w0 w0 u w0 w0 w0 0 0] (H6n [(ky s y, .ptr 3 2 0 0)] [] (gms us) [b] c ps f) (rep 0 0 nilps) (H6n [(ky s y, .ptr 3 2 0 0)] [gm u] (adel (.str u) (gms us)) [b] c ps f) := by
    refine FOk.wp (dO_wp s y u ps (gms us) f b c ?_)
    unfold dO_T
    have hf : afind (ky w0 w0) [(ky s y, AVal.ptr 3 2 0 0)] = none := by
      show (if keq (ky w0 w0) (ky s y) = true then _ else none) = _
      rw [keq_ky, decide_eq_false (fun e => hne e.symm)]; rfl
    rw [hf]
    exact ⟨FOk.wp (given6e_wp s y [] (gms us) [b] c ps f ⟨rfl, rfl⟩), ck, rfl, offs_loop s y [gm u] (gms us) b c u ps f (kk9s us), rfl, rfl⟩
  rw [adel_gm] at h
  exact unmq1 (id := 1) (h.unborn (id := 1) rfl) rfl

theorem sort0 : FOk Tryd.prog 33 [.slc true 0 1 0 0 none] [.bag 1 []] (.tuple []) [.rows true 1 []] := by
  have l0 : FOk Tryd.prog 47 [.int .u64 0] [] (.int .i64 0) [] := FOk.wp (l0_wp ⟨FOk.wp (l64_wp ⟨rfl, rfl⟩), rfl, rfl⟩)
  have pq : FOk Tryd.prog 46 [.slc true 0 1 0 0 none, .int .i64 0, .int .i64 0, .int .i64 0] [.bag 1 []] (.tuple []) [.bag 1 []] := FOk.wp (pq0_wp ⟨FOk.wp (is0_wp ⟨rfl, rfl⟩), rfl, rfl⟩)
  have h : FOk Tryd.prog 33 [.slc true 0 1 0 0 none] [.bag 1 []] (.tuple []) [.bag 1 []] := FOk.wp (so0_wp ⟨l0, pq, rfl, rfl⟩)
  exact h.post fun F w ρ r => r.reobj (id := 0) (o := .bag 1 []) rfl rfl fun b hb => by
    obtain ⟨rs, hp, h⟩ := r.obj 0 _ b rfl hb
    obtain rfl : rs = [] := List.Perm.eq_nil hp
    exact h
theorem mem6_ok (pre post : Ents) (s c : ByteArray) (off : Ents) (us vs : List ByteArray) (f : Bool) (ps : List (List AVal)) (hk : keysOk (pre ++ post)) (hn : afind (ky s c) pre = none) (hp : vs.Perm us) (hs : (vs.map fun u => u.data.toList).Pairwise (fun x y => x ≤ y)) (hl : us.length ≤ 1000) :
    FOk Tryd.prog 16 [.ptr 0 2 0 0, .str s, .str c] (H6 pre post s c off (gms us) f ps) (.tuple [.slc us.isEmpty 6 1 0 us.length none, .int .i64 0]) (H6 pre post s c off (gms us) f ps ++ [.rows true 1 (vs.map fun u => [.str u])]) := by
  refine FOk.born (id := 4) (p := true) (ents := gms us) rfl fun bs k hb hlb => ?_
  have hlb : bs.length = us.length := by rw [hlb]; simp [gms]
  have hfind : FOk Tryd.prog 32 [.ptr 0 2 0 0, .str s, .str c] (M6 pre post s c off us bs k f ps) (.tuple [.ptr 3 2 0 0, .int .i64 0]) (M6 pre post s c off us bs k f ps) := by
    refine FOk.wp (fi6n_wp pre post s c off us bs k f ps ?_)
    unfold fi6n_T
    rw [afind_mid s c _ pre post hn]
    exact ⟨FOk.wp (given6m_wp pre post s c off us bs k f ps ⟨rfl, rfl⟩), keys_all (keys_mid hk), rfl, rfl, rfl⟩
  have hsort : FOk Tryd.prog 33 [.slc us.isEmpty 0 1 0 us.length none] [.bag 1 (us.map fun u => [.str u])] (.tuple []) [.rows true 1 (vs.map fun u => [.str u])] := by
    cases us with
    | nil =>
      obtain rfl : vs = [] := List.Perm.eq_nil hp
      exact sort0
    | cons u us => exact FOk.sortBag sort_ok (u :: us) vs hp hs (by simp) (by simp at hl ⊢; omega)
  have h := FOk.wp (me6_wp pre post s c off us vs bs k us.length us.isEmpty f ps (Q := fun r σ => r = _ ∧ σ = _) ⟨hfind, me6_loop pre post s c off us bs k f ps hb hlb hl, hsort, rfl, rfl⟩)
  exact h.unborn (id := 4) rfl

theorem ckk1 {s c u x y z : ByteArray} {f m : Int} (hx : x.size ≤ 140737488355328) (hm : may1 s c u x y z f m = true) : FOk Tryd.prog 21 [opw 1 s c u x y z f m] [] (.int .i64 0) [] := by
  have := ck1_ok s c u x y z f m hx
  rw [hm] at this; exact this
theorem ckk2 {s c u x y z : ByteArray} {f m : Int} (hx : x.size ≤ 140737488355328) (hm : may2 s c u x y z f m = true) : FOk Tryd.prog 21 [opw 2 s c u x y z f m] [] (.int .i64 0) [] := by
  have := ck2_ok s c u x y z f m hx
  rw [hm] at this; exact this
theorem ckk3 {s c u x y z : ByteArray} {f m : Int} (hx : x.size ≤ 140737488355328) (hm : may3 s c u x y z f m = true) : FOk Tryd.prog 21 [opw 3 s c u x y z f m] [] (.int .i64 0) [] := by
  have := ck3_ok s c u x y z f m hx
  rw [hm] at this; exact this
theorem ckk7 {s c u x y z : ByteArray} {f m : Int} (hx : x.size ≤ 140737488355328) (hm : may7 s c u x y z f m = true) : FOk Tryd.prog 21 [opw 7 s c u x y z f m] [] (.int .i64 0) [] := by
  have := ck7_ok s c u x y z f m hx
  rw [hm] at this; exact this
def uk (k : Nat) : ByteArray := ⟨#[117, UInt8.ofNat (97 + k)]⟩
theorem small (x : ByteArray) (h : x.size ≤ 100 := by decide) : x.size ≤ 140737488355328 := by omega
theorem ckJ (k : Nat) (hk : k < 16) : FOk Tryd.prog 21 [opw 2 vw vc (uk k) w0 w0 w0 0 0] [] (.int .i64 0) [] :=
  ckk2 (small w0) ((by decide +kernel : ∀ k : Fin 16, may2 vw vc (uk k.1) w0 w0 w0 0 0 = true) ⟨k, hk⟩)
theorem ckM : FOk Tryd.prog 21 [opw 1 vw vc w0 w0 w0 w0 0 0] [] (.int .i64 0) [] := ckk1 (small _) (by decide +kernel)
theorem ckA : FOk Tryd.prog 21 [opw 2 vw vc tann w0 w0 w0 0 0] [] (.int .i64 0) [] := ckk2 (small _) (by decide +kernel)
theorem ckF : FOk Tryd.prog 21 [opw 7 w0 w0 tann w0 w0 w0 0 0] [] (.int .i64 0) [] := ckk7 (small _) (by decide +kernel)
theorem ckP (x : ByteArray) (h : x = thi ∨ x = tho ∨ x = tno) : FOk Tryd.prog 21 [opw 3 tw tc tann x w0 w0 0 0] [] (.int .i64 0) [] := by
  rcases h with rfl | rfl | rfl <;> exact ckk3 (small _) (by decide +kernel)
end Go.MN
end

section
set_option linter.unusedVariables false
set_option linter.unusedSimpArgs false
set_option maxRecDepth 100000
namespace Go.MN
open Go Go.Abs Go.Proofs
theorem keysNil : keysOk ([] ++ []) := fun e he => by simp at he
theorem doP (pre post : Ents) (s c u x : ByteArray) (offs us : List ByteArray) (b : Bool) (ps : List (List AVal)) (ck : FOk Tryd.prog 21 [opw 3 s c u x w0 w0 0 0] [] (.int .i64 0) []) (hk : keysOk (pre ++ post)) (hn : afind (ky s c) pre = none) (h : u ∉ offs) (h2 : u ∈ us) (hp : ps.length < 1024) :
    FOk Tryd.prog 13 [.ptr 0 2 0 0, opw 3 s c u x w0 w0 0 0] (H6 pre post s c (gms offs) (gms us) b ps) (rep 0 ps.length nilps) [.rows false 2 [[.map 1, .map 2]], .mq pre [(ky s c, .ptr 3 2 0 0)] post, .mp true (gms offs), .rows false 2 [[.map 4, .slc (b && false) 6 2 0 (ps.length + 1) none]], .mp true (gms us), .dead, .rows true 2 (ps ++ [[.str u, .str x]])] := by
  have hw : FOk Tryd.prog 31 [.ptr 0 2 0 0, ky s c, .ptr 1 2 0 0, opw 3 s c u x w0 w0 0 0] (W6 pre post s c (gms offs) (gms us) b ps) (rep 0 ps.length nilps) [.rows false 2 [[.map 2, .map 3]], .rows false 2 [[.map 4, .slc (b && false) 6 2 0 (ps.length + 1) none]], .mq pre [(ky s c, .ptr 1 2 0 0)] post, .mp true (gms offs), .mp true (gms us), .dead, .rows true 2 (ps ++ [[.str u, .str x]])] := by
    have hi : IntKind.wrap .i64 (((ps.length + 1 : Nat) : Int) - 1) = (ps.length : Int) := by rw [wrapS (by omega) (by omega)]; omega
    refine FOk.wp (wP_wp pre post s c u x (gms offs) (gms us) b ps false true ?_)
    unfold wP_T
    rw [getD_gm, getD_gm, decide_eq_false h, decide_eq_true h2, hi]
    exact ⟨kk9s _, ok4 _, by rw [if_neg (by simp)]; exact as4 false, (fun h => by cases h), fun _ => ⟨kk9s _, ok4 _, by rw [if_neg (by simp)]; exact as4 true, (fun h => by cases h), fun _ => ⟨fun h => absurd (of_decide_eq_true h) (by omega), fun _ => ⟨decide_eq_true (by omega), rfl, rfl⟩⟩⟩⟩
  refine FOk.wp (dP_wp pre post s c u x (gms offs) (gms us) b ps ps.length ?_)
  unfold dP_T
  rw [afind_mid s c _ pre post hn]
  exact ⟨given6 .., ck, keys_all (keys_mid hk), rfl, hw, rfl, rfl⟩
theorem wP_off (pre post : Ents) (s c u x : ByteArray) (offs us : List ByteArray) (b : Bool) (ps : List (List AVal)) (h : u ∈ offs) : FOk Tryd.prog 31 [.ptr 0 2 0 0, ky s c, .ptr 1 2 0 0, opw 3 s c u x w0 w0 0 0] (W6 pre post s c (gms offs) (gms us) b ps) (rep 92 0 nilps) (W6 pre post s c (gms offs) (gms us) b ps) := by
  refine FOk.wp (wP_wp pre post s c u x (gms offs) (gms us) b ps true false ?_)
  unfold wP_T
  rw [getD_gm, decide_eq_true h]
  exact ⟨kk9s _, ok4 _, by rw [if_neg (by simp)]; exact as4 true, fun _ => ⟨rfl, rfl⟩, fun h => by cases h⟩
theorem pos_ok (x : ByteArray) : FOk Tryd.prog 15 [.str x] [] (opw 3 tw tc tann x w0 w0 0 0) [] := FOk.wp (pos_wp x ⟨rfl, rfl⟩)
theorem awake_ok : FOk Tryd.prog 14 [] [] (.bool true) [] := by
  refine FOk.wp (awk_wp ?_)
  unfold awk_T
  exact ⟨new_ok, doM3 [] (gms []) tw tc ckM (fun e he => by simp at he) rfl, doJ [] [] tw tc tann [] [] true [] ckA keysNil rfl (by simp) (by simp), pos_ok thi, doP [] [] tw tc tann thi [] [tann] true [] (ckP thi (.inl rfl)) keysNil rfl (by simp) (by simp) (by decide),
    pos_ok tho, doP [] [] tw tc tann tho [] [tann] false [pst thi] (ckP tho (.inr (.inl rfl))) keysNil rfl (by simp) (by simp) (by decide), doO1 tw tc tann [tann] false [pst thi, pst tho] (by decide) ckF, pos_ok tno,
    doS [] [] 3 tw tc tann tno w0 w0 0 0 (gms [tann]) (gms []) false [pst thi, pst tho] 92 0 true [] (ckP tno (.inr (.inr rfl))) keysNil rfl (by decide) (by decide) (by decide) (wP_off [] [] tw tc tann tno [tann] [] false [pst thi, pst tho] (by simp)), rfl, rfl⟩
end Go.MN
end

section
set_option linter.unusedVariables false
set_option linter.unusedSimpArgs false
set_option maxRecDepth 100000
namespace Go.MN
open Go Go.Abs Go.Proofs
structure Ch where
  s : ByteArray
  c : ByteArray
  us : List ByteArray
  ps : List (List AVal)
  b : Bool
  p : Nat
  q : Nat
  r : Nat
abbrev Ch.pl (x : Ch) : List Nat := [x.p, x.q, x.r]
abbrev Ch.ent (x : Ch) : AVal × AVal := (ky x.s x.c, .ptr x.p 2 0 0)
abbrev entsOf (cs : List Ch) : Ents := cs.map Ch.ent
structure MT (T : AState) (cs : List Ch) (offs : List ByteArray) : Prop where
  h0 : T[0]? = some (.rows false 2 [[.map 1, .map 2]])
  h1 : T[1]? = some (.mp false (entsOf cs))
  h2 : T[2]? = some (.mp true (gms offs))
  hp : ∀ x ∈ cs, T[x.p]? = some (.rows false 2 [[.map x.q, .slc x.b x.r 2 0 x.ps.length none]])
  hq : ∀ x ∈ cs, T[x.q]? = some (.mp true (gms x.us))
  hr : ∀ x ∈ cs, T[x.r]? = some (.rows true 2 x.ps)
  nd : ((List.range 3) ++ cs.flatMap Ch.pl).Nodup
  ng : noGh T = true
theorem MT.lt {T : AState} {cs : List Ch} {offs : List ByteArray} (h : MT T cs offs) : 3 ≤ T.length ∧ ∀ x ∈ cs, x.p < T.length ∧ x.q < T.length ∧ x.r < T.length :=
  ⟨(List.getElem?_eq_some_iff.1 h.h2).1, fun x hx => ⟨(List.getElem?_eq_some_iff.1 (h.hp x hx)).1, (List.getElem?_eq_some_iff.1 (h.hq x hx)).1, (List.getElem?_eq_some_iff.1 (h.hr x hx)).1⟩⟩
theorem MT.one {T : AState} {cs1 cs2 : List Ch} {x : Ch} {offs : List ByteArray} (h : MT T (cs1 ++ [x] ++ cs2) offs) :
    (∀ j ∈ x.pl, 3 ≤ j) ∧ x.p ≠ x.q ∧ x.p ≠ x.r ∧ x.q ≠ x.r ∧ ∀ y ∈ cs1 ++ cs2, ∀ j ∈ y.pl, 3 ≤ j ∧ j ∉ x.pl := by
  have hn := h.nd
  rw [List.nodup_append] at hn
  obtain ⟨_, hn, h3⟩ := hn
  have hge : ∀ y ∈ cs1 ++ [x] ++ cs2, ∀ j ∈ y.pl, 3 ≤ j := fun y hy j hj => by
    rcases Nat.lt_or_ge j 3 with h | h
    · exact absurd rfl (h3 j (by simpa using h) j (List.mem_flatMap.2 ⟨y, hy, hj⟩))
    · exact h
  rw [List.flatMap_append, List.flatMap_append, List.flatMap_singleton, List.append_assoc, List.nodup_append] at hn
  obtain ⟨n1, n2, d1⟩ := hn
  rw [List.nodup_append] at n2
  obtain ⟨nx, n3, d2⟩ := n2
  simp [Ch.pl] at nx
  refine ⟨fun j hj => hge x (by simp) j hj, nx.1.1, nx.1.2, nx.2, fun y hy j hj => ⟨hge y (by
    rcases List.mem_append.1 hy with h | h
    · simp [h]
    · simp [h]) j hj, fun hx => ?_⟩⟩
  rcases List.mem_append.1 hy with hy | hy
  · exact d1 j (List.mem_flatMap.2 ⟨y, hy, hj⟩) j (List.mem_append.2 (.inl hx)) rfl
  · exact d2 j hx j (List.mem_flatMap.2 ⟨y, hy, hj⟩) rfl
theorem ents_keys (cs : List Ch) : keysOk (entsOf cs) := fun e he => by
  obtain ⟨x, _, rfl⟩ := List.mem_map.1 he
  exact ⟨x.s, x.c, rfl⟩
theorem hide_keys (β : Nat → Nat) (cs : List Ch) : keysOk (hideE β (entsOf cs)) := fun e he => by
  obtain ⟨e0, h0, rfl⟩ := List.mem_map.1 he
  exact ents_keys cs e0 h0
def noCh (s c : ByteArray) (cs : List Ch) : Prop := ∀ x ∈ cs, ¬ (x.s = s ∧ x.c = c)
theorem afind_none (β : Nat → Nat) (s c : ByteArray) : ∀ (cs : List Ch), noCh s c cs → afind (ky s c) (hideE β (entsOf cs)) = none
  | [], _ => rfl
  | x :: cs, h => by
    show (if keq (ky s c) (ky x.s x.c) = true then _ else afind (ky s c) (hideE β (entsOf cs))) = none
    have hx := h x (by simp)
    rw [keq_ky, if_neg, afind_none β s c cs fun y hy => h y (by simp [hy])]
    intro he
    simp only [Bool.and_eq_true, decide_eq_true_eq] at he
    exact hx ⟨he.1.symm, he.2.symm⟩
theorem hide_app (β : Nat → Nat) (a b : Ents) : hideE β (a ++ b) = hideE β a ++ hideE β b := by simp [hideE]
theorem lift6 {f : FuncId} {rest : List AVal} {T : AState} {cs1 cs2 : List Ch} {x : Ch} {offs : List ByteArray} (hM : MT T (cs1 ++ [x] ++ cs2) offs) {v : AVal} (hrest : idsInL [] rest = true) (hv : idsIn [] v = true)
    {o0 o2 o3 o4 o5 : AObj} {news : AState} {own : Ents} {cP cQ : List Ch} (hPQ : ∀ y ∈ cP ++ cQ, y ∈ cs1 ++ cs2)
    (h : ∀ β : Nat → Nat, FOk Tryd.prog f (.ptr 0 2 0 0 :: rest) (H6 (hideE β (entsOf cs1)) (hideE β (entsOf cs2)) x.s x.c (gms offs) (gms x.us) x.b x.ps) v (o0 :: .mq (hideE β (entsOf cP)) own (hideE β (entsOf cQ)) :: o2 :: o3 :: o4 :: o5 :: news)) :
    FOk Tryd.prog f (.ptr 0 2 0 0 :: rest) T v ((plug T [0, 1, 2, x.p, x.q, x.r] (o0 :: .dead :: o2 :: o3 :: o4 :: o5 :: news)).set 1 (.mp false (entsOf cP ++ own.map (fun e => (ren (emb [0, 1, 2, x.p, x.q, x.r] T.length) e.1, ren (emb [0, 1, 2, x.p, x.q, x.r] T.length) e.2)) ++ entsOf cQ))) := by
  obtain ⟨hlen, hlt⟩ := hM.lt
  obtain ⟨hx1, hx2, hx3⟩ := hlt x (by simp)
  obtain ⟨hge, npq, npr, nqr, hoth⟩ := hM.one
  have gp := hge x.p (by simp [Ch.pl]); have gq := hge x.q (by simp [Ch.pl]); have gr := hge x.r (by simp [Ch.pl])
  have hnd : Go.Abs.nodupB [0, 1, 2, x.p, x.q, x.r] = true := by
    simp [Go.Abs.nodupB]; omega
  have hltT : ∀ j ∈ [0, 1, 2, x.p, x.q, x.r], j < T.length := fun j hj => by
    simp at hj; omega
  have hents : entsOf (cs1 ++ [x] ++ cs2) = entsOf cs1 ++ [x.ent] ++ entsOf cs2 := by simp [entsOf]
  refine FOk.unmq 1 (pre := entsOf cs1) (own := [x.ent]) (post := entsOf cs2) (pre' := entsOf cP) (own' := own.map (fun e => (ren (emb [0, 1, 2, x.p, x.q, x.r] T.length) e.1, ren (emb [0, 1, 2, x.p, x.q, x.r] T.length) e.2))) (post' := entsOf cQ) (by rw [← hents]; exact hM.h1) ?_ ?_ ?_ fun β => ?_
  · rw [List.getElem?_set, if_pos rfl, if_pos]
    rw [plug_len hnd hltT (by simp)]; omega
  · intro e he
    have : e ∈ entsOf (cs1 ++ cs2) := by simpa [entsOf] using he
    obtain ⟨y, _, rfl⟩ := List.mem_map.1 this
    exact ⟨rfl, rfl⟩
  · intro e he
    have : e ∈ entsOf (cP ++ cQ) := by simpa [entsOf] using he
    obtain ⟨y, hy, rfl⟩ := List.mem_map.1 this
    have hy2 := hPQ y hy
    refine ⟨y.ent, ?_, rfl⟩
    rw [← hents]
    refine List.mem_map.2 ⟨y, ?_, rfl⟩
    rcases List.mem_append.1 hy2 with h | h <;> simp [h]
  · have hS : (T.set 1 (.mq (hideE β (entsOf cs1)) [x.ent] (hideE β (entsOf cs2)))).length = T.length := by simp
    have hget : ∀ j, j ≠ 1 → (T.set 1 (.mq (hideE β (entsOf cs1)) [x.ent] (hideE β (entsOf cs2))))[j]? = T[j]? := fun j hj => by rw [List.getElem?_set_ne (fun e => hj e.symm)]
    have hu : UseOk Tryd.prog f [0, 1, 2, x.p, x.q, x.r] (renL (emb [0, 1, 2, x.p, x.q, x.r] T.length) (.ptr 0 2 0 0 :: rest)) (T.set 1 (.mq (hideE β (entsOf cs1)) [x.ent] (hideE β (entsOf cs2)))) (.ptr 0 2 0 0 :: rest) (H6 (hideE β (entsOf cs1)) (hideE β (entsOf cs2)) x.s x.c (gms offs) (gms x.us) x.b x.ps) v
        (o0 :: .mq (hideE β (entsOf cP)) own (hideE β (entsOf cQ)) :: o2 :: o3 :: o4 :: o5 :: news) := by
      refine ⟨h β, by rw [hS], ?_, ?_⟩
      · rw [hS]
        simp only [List.map_cons, List.map_nil]
        rw [hget 0 (by omega), hget 2 (by omega), hget x.p (by omega), hget x.q (by omega), hget x.r (by omega), List.getElem?_set_self (by omega), hM.h0, hM.h2, hM.hp x (by simp), hM.hq x (by simp), hM.hr x (by simp)]
        rfl
      · unfold okEmb
        rw [hnd]
        have hsc : inScopeL 6 (AVal.ptr 0 2 0 0 :: rest) = true := by
          simp only [inScopeL, Bool.and_eq_true]; exact ⟨rfl, scopeL_closed rest hrest⟩
        have e1 : (List.all [0, 1, 2, x.p, x.q, x.r] fun j => decide (j < (T.set 1 (.mq (hideE β (entsOf cs1)) [x.ent] (hideE β (entsOf cs2)))).length)) = true := by
          rw [hS, List.all_eq_true]; intro j hj; exact decide_eq_true (hltT j hj)
        rw [e1]
        show (true && true && inScopeL 6 (AVal.ptr 0 2 0 0 :: rest) && _ && _) = true
        rw [hsc]
        simp [inScopeO, inScopeL, inScope]
    have hf := hu.fok'
    rw [hS] at hf
    have ha : renL (emb [0, 1, 2, x.p, x.q, x.r] T.length) (AVal.ptr 0 2 0 0 :: rest) = AVal.ptr 0 2 0 0 :: rest := by
      simp only [renL]; rw [renL_closed rest hrest]; rfl
    rw [ha, ren_closed v hv] at hf
    rw [List.set_set]
    have hpl := plug_at (S := T.set 1 (.mq (hideE β (entsOf cs1)) [x.ent] (hideE β (entsOf cs2)))) (S2 := T) (es := [0, 1, 2, x.p, x.q, x.r]) (σ1 := o0 :: .mq (hideE β (entsOf cP)) own (hideE β (entsOf cQ)) :: o2 :: o3 :: o4 :: o5 :: news) (σ2 := o0 :: .dead :: o2 :: o3 :: o4 :: o5 :: news) (i0 := 1) (a := 1) hnd (by rw [hS]; exact hltT) (by simp) rfl hS.symm rfl rfl hget (fun i hi => by
      match i with
      | 0 => rfl
      | 1 => exact absurd rfl hi
      | i + 2 => rfl)
    rw [hS] at hpl
    rw [hpl] at hf
    exact hf
end Go.MN
end

section
set_option linter.unusedVariables false
set_option linter.unusedSimpArgs false
set_option maxRecDepth 100000
namespace Go.MN
open Go Go.Abs Go.Proofs
def putT (T : AState) (x : Ch) (o0 o2 o3 o4 o5 : AObj) (news : AState) (ents : Ents) : AState := (plug T [0, 1, 2, x.p, x.q, x.r] (o0 :: .dead :: o2 :: o3 :: o4 :: o5 :: news)).set 1 (.mp false ents)
theorem putT_get {T : AState} {cs1 cs2 : List Ch} {x : Ch} {offs : List ByteArray} (hM : MT T (cs1 ++ [x] ++ cs2) offs) (o0 o2 o3 o4 o5 : AObj) (news : AState) (ents : Ents) :
    (putT T x o0 o2 o3 o4 o5 news ents)[0]? = some (renO (emb [0, 1, 2, x.p, x.q, x.r] T.length) o0) ∧ (putT T x o0 o2 o3 o4 o5 news ents)[1]? = some (.mp false ents) ∧ (putT T x o0 o2 o3 o4 o5 news ents)[2]? = some (renO (emb [0, 1, 2, x.p, x.q, x.r] T.length) o2) ∧
    (putT T x o0 o2 o3 o4 o5 news ents)[x.p]? = some (renO (emb [0, 1, 2, x.p, x.q, x.r] T.length) o3) ∧ (putT T x o0 o2 o3 o4 o5 news ents)[x.q]? = some (renO (emb [0, 1, 2, x.p, x.q, x.r] T.length) o4) ∧ (putT T x o0 o2 o3 o4 o5 news ents)[x.r]? = some (renO (emb [0, 1, 2, x.p, x.q, x.r] T.length) o5) ∧
    (∀ j, j < T.length → 3 ≤ j → j ∉ x.pl → (putT T x o0 o2 o3 o4 o5 news ents)[j]? = T[j]?) ∧ (∀ i, (putT T x o0 o2 o3 o4 o5 news ents)[T.length + i]? = (news[i]?).map (renO (emb [0, 1, 2, x.p, x.q, x.r] T.length))) := by
  obtain ⟨hlen, hlt⟩ := hM.lt
  obtain ⟨hx1, hx2, hx3⟩ := hlt x (by simp)
  obtain ⟨hge, npq, npr, nqr, hoth⟩ := hM.one
  have gp := hge x.p (by simp [Ch.pl]); have gq := hge x.q (by simp [Ch.pl]); have gr := hge x.r (by simp [Ch.pl])
  have hnd : Go.Abs.nodupB [0, 1, 2, x.p, x.q, x.r] = true := by
    simp [Go.Abs.nodupB]; omega
  have hltT : ∀ j ∈ [0, 1, 2, x.p, x.q, x.r], j < T.length := fun j hj => by
    simp at hj; omega
  have hl6 : [0, 1, 2, x.p, x.q, x.r].length ≤ (o0 :: AObj.dead :: o2 :: o3 :: o4 :: o5 :: news).length := by simp
  have hne : ∀ j, j ≠ 1 → (putT T x o0 o2 o3 o4 o5 news ents)[j]? = (plug T [0, 1, 2, x.p, x.q, x.r] (o0 :: .dead :: o2 :: o3 :: o4 :: o5 :: news))[j]? := fun j hj => by
    unfold putT; rw [List.getElem?_set_ne (fun e => hj e.symm)]
  refine ⟨?_, ?_, ?_, ?_, ?_, ?_, fun j h1 h2 h3 => ?_, fun i => ?_⟩
  · rw [hne 0 (by omega)]; exact plug_in hnd hltT hl6 (i := 0) rfl rfl
  · unfold putT
    rw [List.getElem?_set, if_pos rfl, if_pos]
    rw [plug_len hnd hltT hl6]; omega
  · rw [hne 2 (by omega)]; exact plug_in hnd hltT hl6 (i := 2) rfl rfl
  · rw [hne x.p (by omega)]; exact plug_in hnd hltT hl6 (i := 3) rfl rfl
  · rw [hne x.q (by omega)]; exact plug_in hnd hltT hl6 (i := 4) rfl rfl
  · rw [hne x.r (by omega)]; exact plug_in hnd hltT hl6 (i := 5) rfl rfl
  · rw [hne j (by omega)]
    refine plug_out hnd hltT hl6 h1 ?_
    simp [Ch.pl] at h3 ⊢
    omega
  · rw [hne _ (by omega), plug_new hnd hltT hl6 i]
    show Option.map _ ([o0, .dead, o2, o3, o4, o5] ++ news)[6 + i]? = _
    rw [List.getElem?_append_right (by simp)]
    simp
theorem putT_len {T : AState} {cs1 cs2 : List Ch} {x : Ch} {offs : List ByteArray} (hM : MT T (cs1 ++ [x] ++ cs2) offs) (o0 o2 o3 o4 o5 : AObj) (news : AState) (ents : Ents) : (putT T x o0 o2 o3 o4 o5 news ents).length = T.length + news.length := by
  obtain ⟨hlen, hlt⟩ := hM.lt
  obtain ⟨hx1, hx2, hx3⟩ := hlt x (by simp)
  obtain ⟨hge, npq, npr, nqr, hoth⟩ := hM.one
  have gp := hge x.p (by simp [Ch.pl]); have gq := hge x.q (by simp [Ch.pl]); have gr := hge x.r (by simp [Ch.pl])
  unfold putT
  rw [List.length_set, plug_len (by simp [Go.Abs.nodupB]; omega) (fun j hj => by simp at hj; omega) (by simp)]
  simp
theorem putT_gh {T : AState} {cs1 cs2 : List Ch} {x : Ch} {offs : List ByteArray} (hM : MT T (cs1 ++ [x] ++ cs2) offs) {o0 o2 o3 o4 o5 : AObj} {news : AState} (ents : Ents) (h : noGh (o0 :: o2 :: o3 :: o4 :: o5 :: news) = true) : noGh (putT T x o0 o2 o3 o4 o5 news ents) = true := by
  obtain ⟨g0, g1, g2, g3, g4, g5, g6, g7⟩ := putT_get hM o0 o2 o3 o4 o5 news ents
  have hl := putT_len hM o0 o2 o3 o4 o5 news ents
  have hm : ∀ o ∈ o0 :: o2 :: o3 :: o4 :: o5 :: news, o.isGh = false := fun o ho => by
    have := List.all_eq_true.1 h o ho
    simpa using this
  unfold noGh
  rw [List.all_eq_true]
  intro o ho
  obtain ⟨j, hj⟩ := List.getElem?_of_mem ho
  have hjl := (List.getElem?_eq_some_iff.1 hj).1
  have key : o.isGh = false := by
    rcases Nat.lt_or_ge j T.length with hjT | hjT
    · by_cases e0 : j = 0
      · subst e0; rw [g0] at hj; cases hj; rw [renO_isGh]; exact hm _ (by simp)
      by_cases e1 : j = 1
      · subst e1; rw [g1] at hj; cases hj; rfl
      by_cases e2 : j = 2
      · subst e2; rw [g2] at hj; cases hj; rw [renO_isGh]; exact hm _ (by simp)
      by_cases e3 : j = x.p
      · subst e3; rw [g3] at hj; cases hj; rw [renO_isGh]; exact hm _ (by simp)
      by_cases e4 : j = x.q
      · subst e4; rw [g4] at hj; cases hj; rw [renO_isGh]; exact hm _ (by simp)
      by_cases e5 : j = x.r
      · subst e5; rw [g5] at hj; cases hj; rw [renO_isGh]; exact hm _ (by simp)
      rw [g6 j hjT (by omega) (by simp [Ch.pl]; exact ⟨e3, e4, e5⟩)] at hj
      exact noGh_get hM.ng hj
    · obtain ⟨i, rfl⟩ : ∃ i, j = T.length + i := ⟨j - T.length, by omega⟩
      rw [g7 i, Option.map_eq_some_iff] at hj
      obtain ⟨o', h1, rfl⟩ := hj
      rw [renO_isGh]; exact hm _ (by simp [List.mem_of_getElem? h1])
  rw [key]; rfl
theorem MT.put {T : AState} {cs1 cs2 : List Ch} {x : Ch} {offs : List ByteArray} (hM : MT T (cs1 ++ [x] ++ cs2) offs) (x' : Ch) (cP cQ : List Ch) (hPQ : ∀ y ∈ cP ++ cQ, y ∈ cs1 ++ cs2) (offs' : List ByteArray) (news : AState) (k : Nat) (o5 : AObj) (hp : x'.p = x.p) (hq : x'.q = x.q)
    (hr : (x'.r = x.r ∧ k = 5 ∧ o5 = .rows true 2 x'.ps ∧ news = []) ∨ (x'.r = T.length ∧ k = 6 ∧ o5 = .dead ∧ news = [.rows true 2 x'.ps]))
    (hnd : (List.range 3 ++ (cP ++ [x'] ++ cQ).flatMap Ch.pl).Nodup) :
    MT (putT T x (.rows false 2 [[.map 1, .map 2]]) (.mp true (gms offs')) (.rows false 2 [[.map 4, .slc x'.b k 2 0 x'.ps.length none]]) (.mp true (gms x'.us)) o5 news (entsOf (cP ++ [x'] ++ cQ))) (cP ++ [x'] ++ cQ) offs' := by
  obtain ⟨g0, g1, g2, g3, g4, g5, g6, g7⟩ := putT_get hM (.rows false 2 [[.map 1, .map 2]]) (.mp true (gms offs')) (.rows false 2 [[.map 4, .slc x'.b k 2 0 x'.ps.length none]]) (.mp true (gms x'.us)) o5 news (entsOf (cP ++ [x'] ++ cQ))
  obtain ⟨_, hlt⟩ := hM.lt
  obtain ⟨hge, npq, npr, nqr, hoth⟩ := hM.one
  have hcase : ∀ y ∈ cP ++ [x'] ++ cQ, y = x' ∨ y ∈ cs1 ++ cs2 := fun y hy => by
    simp only [List.mem_append, List.mem_singleton] at hy
    rcases hy with (hy | hy) | hy
    · exact .inr (hPQ y (by simp [hy]))
    · exact .inl hy
    · exact .inr (hPQ y (by simp [hy]))
  have hold : ∀ y ∈ cs1 ++ cs2, y ∈ cs1 ++ [x] ++ cs2 := fun y hy => by
    rcases List.mem_append.1 hy with h | h <;> simp [h]
  have hsame : ∀ y ∈ cs1 ++ cs2, ∀ j ∈ y.pl, (putT T x (.rows false 2 [[.map 1, .map 2]]) (.mp true (gms offs')) (.rows false 2 [[.map 4, .slc x'.b k 2 0 x'.ps.length none]]) (.mp true (gms x'.us)) o5 news (entsOf (cP ++ [x'] ++ cQ)))[j]? = T[j]? := fun y hy j hj => by
    obtain ⟨h1, h2⟩ := hoth y hy j hj
    obtain ⟨a, b, c⟩ := hlt y (hold y hy)
    refine g6 j ?_ h1 h2
    simp [Ch.pl] at hj; omega
  refine ⟨by rw [g0]; rfl, by rw [g1], by rw [g2]; rfl, fun y hy => ?_, fun y hy => ?_, fun y hy => ?_, hnd, ?_⟩
  · rcases hcase y hy with rfl | hy
    · rw [hp, hq, g3]
      rcases hr with ⟨e, rfl, _⟩ | ⟨e, rfl, _⟩
      · rw [e]; rfl
      · rw [e]
        show some (AObj.rows false 2 [[.map x.q, .slc y.b (emb [0, 1, 2, x.p, x.q, x.r] T.length 6) 2 0 y.ps.length none]]) = _
        rfl
    · rw [hsame y hy y.p (by simp [Ch.pl])]; exact hM.hp y (hold y hy)
  · rcases hcase y hy with rfl | hy
    · rw [hq, g4]; rfl
    · rw [hsame y hy y.q (by simp [Ch.pl])]; exact hM.hq y (hold y hy)
  · rcases hcase y hy with rfl | hy
    · rcases hr with ⟨e, _, rfl, _⟩ | ⟨e, _, _, rfl⟩
      · rw [e, g5]; rfl
      · rw [e, show T.length = T.length + 0 from rfl, g7 0]; rfl
    · rw [hsame y hy y.r (by simp [Ch.pl])]; exact hM.hr y (hold y hy)
  · refine putT_gh hM _ ?_
    rcases hr with ⟨_, _, rfl, rfl⟩ | ⟨_, _, rfl, rfl⟩ <;> rfl
end Go.MN
end

section
set_option linter.unusedVariables false
set_option linter.unusedSimpArgs false
set_option maxRecDepth 100000
namespace Go.MN
open Go Go.Abs Go.Proofs
abbrev ent0 (e : Nat → Nat) (own : Ents) : Ents := own.map fun p => (ren e p.1, ren e p.2)
theorem lift3 {f : FuncId} {rest : List AVal} {T : AState} {cs : List Ch} {offs : List ByteArray} (hM : MT T cs offs) {v : AVal} (hrest : idsInL [] rest = true) (hv : idsIn [] v = true) {o0 o2 : AObj} {news : AState} {own : Ents}
    (h : ∀ β : Nat → Nat, FOk Tryd.prog f (.ptr 0 2 0 0 :: rest) (H3 (hideE β (entsOf cs)) (gms offs)) v (o0 :: .mq (hideE β (entsOf cs)) own [] :: o2 :: news)) :
    FOk Tryd.prog f (.ptr 0 2 0 0 :: rest) T v ((plug T [0, 1, 2] (o0 :: .dead :: o2 :: news)).set 1 (.mp false (entsOf cs ++ ent0 (emb [0, 1, 2] T.length) own))) := by
  obtain ⟨hlen, hlt⟩ := hM.lt
  have hltT : ∀ j ∈ [0, 1, 2], j < T.length := fun j hj => by simp at hj; omega
  have hT' : entsOf cs ++ ent0 (emb [0, 1, 2] T.length) own = entsOf cs ++ ent0 (emb [0, 1, 2] T.length) own ++ [] := by simp
  rw [hT']
  refine FOk.unmq 1 (pre := entsOf cs) (own := []) (post := []) (pre' := entsOf cs) (own' := ent0 (emb [0, 1, 2] T.length) own) (post' := []) (by rw [List.append_nil, List.append_nil]; exact hM.h1) ?_ ?_ ?_ fun β => ?_
  · rw [List.getElem?_set, if_pos rfl, if_pos]
    rw [plug_len rfl hltT (by simp)]; omega
  · intro e he
    rw [List.append_nil] at he
    obtain ⟨y, _, rfl⟩ := List.mem_map.1 he
    exact ⟨rfl, rfl⟩
  · intro e he
    exact ⟨e, by simpa using he, rfl⟩
  · have hS : (T.set 1 (.mq (hideE β (entsOf cs)) [] (hideE β []))).length = T.length := by simp
    have hget : ∀ j, j ≠ 1 → (T.set 1 (.mq (hideE β (entsOf cs)) [] (hideE β [])))[j]? = T[j]? := fun j hj => by rw [List.getElem?_set_ne (fun e => hj e.symm)]
    have hu : UseOk Tryd.prog f [0, 1, 2] (renL (emb [0, 1, 2] T.length) (.ptr 0 2 0 0 :: rest)) (T.set 1 (.mq (hideE β (entsOf cs)) [] (hideE β []))) (.ptr 0 2 0 0 :: rest) (H3 (hideE β (entsOf cs)) (gms offs)) v (o0 :: .mq (hideE β (entsOf cs)) own [] :: o2 :: news) := by
      refine ⟨h β, by rw [hS], ?_, ?_⟩
      · rw [hS]
        simp only [List.map_cons, List.map_nil]
        rw [hget 0 (by omega), hget 2 (by omega), List.getElem?_set_self (by omega), hM.h0, hM.h2]
        rfl
      · unfold okEmb
        have hsc : inScopeL 3 (AVal.ptr 0 2 0 0 :: rest) = true := by
          simp only [inScopeL, Bool.and_eq_true]; exact ⟨rfl, scopeL_closed rest hrest⟩
        have e1 : (List.all [0, 1, 2] fun j => decide (j < (T.set 1 (.mq (hideE β (entsOf cs)) [] (hideE β []))).length)) = true := by
          rw [hS, List.all_eq_true]; intro j hj; exact decide_eq_true (hltT j hj)
        rw [e1]
        show (true && true && inScopeL 3 (AVal.ptr 0 2 0 0 :: rest) && _ && _) = true
        rw [hsc]
        simp [inScopeO, inScopeL, inScope]
    have hf := hu.fok'
    rw [hS] at hf
    have ha : renL (emb [0, 1, 2] T.length) (AVal.ptr 0 2 0 0 :: rest) = AVal.ptr 0 2 0 0 :: rest := by
      simp only [renL]; rw [renL_closed rest hrest]; rfl
    rw [ha, ren_closed v hv] at hf
    rw [List.set_set]
    have hpl := plug_at (S := T.set 1 (.mq (hideE β (entsOf cs)) [] (hideE β []))) (S2 := T) (es := [0, 1, 2]) (σ1 := o0 :: .mq (hideE β (entsOf cs)) own [] :: o2 :: news) (σ2 := o0 :: .dead :: o2 :: news) (i0 := 1) (a := 1) rfl (by rw [hS]; exact hltT) (by simp) rfl hS.symm rfl rfl hget (fun i hi => by
      match i with
      | 0 => rfl
      | 1 => exact absurd rfl hi
      | i + 2 => rfl)
    rw [hS] at hpl
    rw [hpl] at hf
    exact hf
def putT3 (T : AState) (o0 o2 : AObj) (news : AState) (ents : Ents) : AState := (plug T [0, 1, 2] (o0 :: .dead :: o2 :: news)).set 1 (.mp false ents)
theorem putT3_get {T : AState} {cs : List Ch} {offs : List ByteArray} (hM : MT T cs offs) (o0 o2 : AObj) (news : AState) (ents : Ents) :
    (putT3 T o0 o2 news ents)[0]? = some (renO (emb [0, 1, 2] T.length) o0) ∧ (putT3 T o0 o2 news ents)[1]? = some (.mp false ents) ∧ (putT3 T o0 o2 news ents)[2]? = some (renO (emb [0, 1, 2] T.length) o2) ∧
    (∀ j, j < T.length → 3 ≤ j → (putT3 T o0 o2 news ents)[j]? = T[j]?) ∧ (∀ i, (putT3 T o0 o2 news ents)[T.length + i]? = (news[i]?).map (renO (emb [0, 1, 2] T.length))) := by
  obtain ⟨hlen, hlt⟩ := hM.lt
  have hltT : ∀ j ∈ [0, 1, 2], j < T.length := fun j hj => by simp at hj; omega
  have hl6 : [0, 1, 2].length ≤ (o0 :: AObj.dead :: o2 :: news).length := by simp
  have hne : ∀ j, j ≠ 1 → (putT3 T o0 o2 news ents)[j]? = (plug T [0, 1, 2] (o0 :: .dead :: o2 :: news))[j]? := fun j hj => by
    unfold putT3; rw [List.getElem?_set_ne (fun e => hj e.symm)]
  refine ⟨?_, ?_, ?_, fun j h1 h2 => ?_, fun i => ?_⟩
  · rw [hne 0 (by omega)]; exact plug_in rfl hltT hl6 (i := 0) rfl rfl
  · unfold putT3
    rw [List.getElem?_set, if_pos rfl, if_pos]
    rw [plug_len rfl hltT hl6]; omega
  · rw [hne 2 (by omega)]; exact plug_in rfl hltT hl6 (i := 2) rfl rfl
  · rw [hne j (by omega)]
    refine plug_out rfl hltT hl6 h1 ?_
    simp; omega
  · rw [hne _ (by omega), plug_new rfl hltT hl6 i]
    show Option.map _ ([o0, .dead, o2] ++ news)[3 + i]? = _
    rw [List.getElem?_append_right (by simp)]
    simp
theorem putT3_gh {T : AState} {cs : List Ch} {offs : List ByteArray} (hM : MT T cs offs) {o0 o2 : AObj} {news : AState} (ents : Ents) (h : noGh (o0 :: o2 :: news) = true) : noGh (putT3 T o0 o2 news ents) = true := by
  obtain ⟨g0, g1, g2, g6, g7⟩ := putT3_get hM o0 o2 news ents
  have hm : ∀ o ∈ o0 :: o2 :: news, o.isGh = false := fun o ho => by
    have := List.all_eq_true.1 h o ho
    simpa using this
  unfold noGh
  rw [List.all_eq_true]
  intro o ho
  obtain ⟨j, hj⟩ := List.getElem?_of_mem ho
  have key : o.isGh = false := by
    rcases Nat.lt_or_ge j T.length with hjT | hjT
    · by_cases e0 : j = 0
      · subst e0; rw [g0] at hj; cases hj; rw [renO_isGh]; exact hm _ (by simp)
      by_cases e1 : j = 1
      · subst e1; rw [g1] at hj; cases hj; rfl
      by_cases e2 : j = 2
      · subst e2; rw [g2] at hj; cases hj; rw [renO_isGh]; exact hm _ (by simp)
      rw [g6 j hjT (by omega)] at hj
      exact noGh_get hM.ng hj
    · obtain ⟨i, rfl⟩ : ∃ i, j = T.length + i := ⟨j - T.length, by omega⟩
      rw [g7 i, Option.map_eq_some_iff] at hj
      obtain ⟨o', h1, rfl⟩ := hj
      rw [renO_isGh]; exact hm _ (by simp [List.mem_of_getElem? h1])
  rw [key]; rfl
theorem MT.make {T : AState} {cs : List Ch} {offs : List ByteArray} (hM : MT T cs offs) (s c : ByteArray) :
    MT (putT3 T (.rows false 2 [[.map 1, .map 2]]) (.mp true (gms offs)) [.rows false 2 [[.map 4, .slc true 5 2 0 0 none]], .mp true (gms []), .rows true 2 []] (entsOf (cs ++ [⟨s, c, [], [], true, T.length, T.length + 1, T.length + 2⟩]))) (cs ++ [⟨s, c, [], [], true, T.length, T.length + 1, T.length + 2⟩]) offs := by
  obtain ⟨g0, g1, g2, g6, g7⟩ := putT3_get hM (.rows false 2 [[.map 1, .map 2]]) (.mp true (gms offs)) [.rows false 2 [[.map 4, .slc true 5 2 0 0 none]], .mp true (gms []), .rows true 2 []] (entsOf (cs ++ [⟨s, c, [], [], true, T.length, T.length + 1, T.length + 2⟩]))
  obtain ⟨hlen, hlt⟩ := hM.lt
  have hge : ∀ y ∈ cs, ∀ j ∈ y.pl, 3 ≤ j ∧ j < T.length := fun y hy j hj => by
    have hn := hM.nd
    rw [List.nodup_append] at hn
    obtain ⟨a, b, c⟩ := hlt y hy
    refine ⟨?_, by simp [Ch.pl] at hj; omega⟩
    rcases Nat.lt_or_ge j 3 with h | h
    · exact absurd rfl (hn.2.2 j (by simpa using h) j (List.mem_flatMap.2 ⟨y, hy, hj⟩))
    · exact h
  refine ⟨by rw [g0]; rfl, by rw [g1], by rw [g2]; rfl, fun y hy => ?_, fun y hy => ?_, fun y hy => ?_, ?_, putT3_gh hM _ rfl⟩
  · rcases List.mem_append.1 hy with hy | hy
    · have := hge y hy y.p (by simp [Ch.pl])
      rw [g6 y.p this.2 this.1]; exact hM.hp y hy
    · simp at hy; subst hy
      show (putT3 T _ _ _ _)[T.length + 0]? = _
      rw [g7 0]
      show some (AObj.rows false 2 [[.map (emb [0, 1, 2] T.length 4), .slc true (emb [0, 1, 2] T.length 5) 2 0 0 none]]) = _
      rfl
  · rcases List.mem_append.1 hy with hy | hy
    · have := hge y hy y.q (by simp [Ch.pl])
      rw [g6 y.q this.2 this.1]; exact hM.hq y hy
    · simp at hy; subst hy
      show (putT3 T _ _ _ _)[T.length + 1]? = _
      rw [g7 1]; rfl
  · rcases List.mem_append.1 hy with hy | hy
    · have := hge y hy y.r (by simp [Ch.pl])
      rw [g6 y.r this.2 this.1]; exact hM.hr y hy
    · simp at hy; subst hy
      show (putT3 T _ _ _ _)[T.length + 2]? = _
      rw [g7 2]; rfl
  · rw [List.flatMap_append, List.flatMap_singleton, ← List.append_assoc, List.nodup_append]
    refine ⟨hM.nd, by simp [Ch.pl], fun a ha b hb => ?_⟩
    have h1 : a < T.length := by
      rcases List.mem_append.1 ha with h | h
      · simp at h; omega
      · obtain ⟨y, hy, hj⟩ := List.mem_flatMap.1 h
        exact (hge y hy a hj).2
    simp [Ch.pl] at hb
    omega
end Go.MN
end

section
set_option linter.unusedVariables false
set_option linter.unusedSimpArgs false
set_option maxRecDepth 100000
namespace Go.MN
open Go Go.Abs Go.Proofs
theorem wP_no (pre post : Ents) (s c u x : ByteArray) (offs us : List ByteArray) (b : Bool) (ps : List (List AVal)) (h : u ∉ offs) (h2 : u ∉ us) : FOk Tryd.prog 31 [.ptr 0 2 0 0, ky s c, .ptr 1 2 0 0, opw 3 s c u x w0 w0 0 0] (W6 pre post s c (gms offs) (gms us) b ps) (rep 91 0 nilps) (W6 pre post s c (gms offs) (gms us) b ps) := by
  refine FOk.wp (wP_wp pre post s c u x (gms offs) (gms us) b ps false false ?_)
  unfold wP_T
  rw [getD_gm, getD_gm, decide_eq_false h, decide_eq_false h2]
  exact ⟨kk9s _, ok4 _, by rw [if_neg (by simp)]; exact as4 false, (fun h => by cases h), fun _ => ⟨kk9s _, ok4 _, by rw [if_neg (by simp)]; exact as4 false, (fun _ => ⟨rfl, rfl⟩), fun h => by cases h⟩⟩
theorem wP_full (pre post : Ents) (s c u x : ByteArray) (offs us : List ByteArray) (b : Bool) (ps : List (List AVal)) (h : u ∉ offs) (h2 : u ∈ us) (hp : 1024 ≤ ps.length) : FOk Tryd.prog 31 [.ptr 0 2 0 0, ky s c, .ptr 1 2 0 0, opw 3 s c u x w0 w0 0 0] (W6 pre post s c (gms offs) (gms us) b ps) (rep 2 0 nilps) (W6 pre post s c (gms offs) (gms us) b ps) := by
  refine FOk.wp (wP_wp pre post s c u x (gms offs) (gms us) b ps false true ?_)
  unfold wP_T
  rw [getD_gm, getD_gm, decide_eq_false h, decide_eq_true h2]
  exact ⟨kk9s _, ok4 _, by rw [if_neg (by simp)]; exact as4 false, (fun h => by cases h), fun _ => ⟨kk9s _, ok4 _, by rw [if_neg (by simp)]; exact as4 true, (fun h => by cases h), fun _ => ⟨fun _ => ⟨rfl, rfl⟩, fun h => absurd (of_decide_eq_false h) (by omega)⟩⟩⟩
def isPost (r : List AVal) : Prop := ∃ u x, r = [.str u, .str x]
theorem cl_ok (b : Bool) (ps : List (List AVal)) (hb : b = true → ps = []) (hps : ∀ r ∈ ps, isPost r) (hl : ps.length ≤ 1024) (o n : Nat) (ho : o + n ≤ ps.length) :
    FOk Tryd.prog 45 [.slc b 0 2 o n none] [.rows true 2 ps] (.fsl b 2 ((ps.drop o).take n) none) [.rows true 2 ps] := by
  cases b with
  | true =>
    have := hb rfl; subst this
    refine FOk.wp (clE_wp o n [] ?_)
    exact ⟨by simp, rfl⟩
  | false =>
    have hlen : ((ps.drop o).take n).length = n := by rw [List.length_take, List.length_drop]; omega
    have h : FOk Tryd.prog 45 [.slc false 0 2 o n none] [.rows true 2 ps] (.slc false 1 2 0 n none) [.rows true 2 ps, .rows true 2 ((ps.drop o).take n)] := by
      refine FOk.wp (cl_wp o n ps ?_)
      unfold cl_T
      rw [hlen]
      refine ⟨?_, decide_eq_true ho, decide_eq_true (by omega), by rw [Nat.zero_add], rfl⟩
      rw [List.all_eq_true]
      intro r hr
      obtain ⟨u, x, rfl⟩ := hps r (List.mem_of_mem_drop (List.mem_of_mem_take hr))
      rfl
    have h1 : FOk Tryd.prog 45 [.slc false 0 2 o n none] [.rows true 2 ps] (.slc false 1 2 0 ((ps.drop o).take n).length none) [.rows true 2 ps, .rows true 2 ((ps.drop o).take n)] := by rw [hlen]; exact h
    exact FOk.fsl (σ2 := [.rows true 2 ps]) h1 rfl rfl rfl
def rdA (ps : List (List AVal)) (f : Int) : Nat := min f.toNat ps.length
def rdK (ps : List (List AVal)) (f m : Int) : Nat := min m.toNat (ps.length - rdA ps f)
def rdR (b : Bool) (ps : List (List AVal)) (f m : Int) : AVal := rep 0 ((rdA ps f + rdK ps f m : Nat) : Int) (.fsl b 2 ((ps.drop (rdA ps f)).take (rdK ps f m)) none)
theorem wR_ok (pre post : Ents) (s c : ByteArray) (f m : Int) (off mem : Ents) (b : Bool) (ps : List (List AVal)) (hb : b = true → ps = []) (hps : ∀ r ∈ ps, isPost r) (hl : ps.length ≤ 1024) (hf : 0 ≤ f) (hf2 : f ≤ 2147483647) (hm : 0 ≤ m) (hm2 : m ≤ 64) :
    FOk Tryd.prog 31 [.ptr 0 2 0 0, ky s c, .ptr 1 2 0 0, opw 4 s c w0 w0 w0 w0 f m] (W6 pre post s c off mem b ps) (rdR b ps f m) (W6 pre post s c off mem b ps) := by
  have e1 : imin f (ps.length : Int) = (rdA ps f : Int) := by unfold imin rdA; split <;> omega
  have e2 : IntKind.wrap .i64 ((rdA ps f : Int) + m) = (rdA ps f : Int) + m := wrapS (by unfold rdA; omega) (by unfold rdA; omega)
  have hA : rdA ps f ≤ ps.length := by unfold rdA; omega
  have e3 : imin ((rdA ps f : Int) + m) (ps.length : Int) = ((rdA ps f + rdK ps f m : Nat) : Int) := by unfold imin rdK; split <;> omega
  have hK : rdA ps f + rdK ps f m ≤ ps.length := by unfold rdK; omega
  have e4 : IntKind.wrap .i64 ((rdA ps f : Int) + ((rdK ps f m : Nat) : Int)) = ((rdA ps f + rdK ps f m : Nat) : Int) := by rw [wrapS (by omega) (by omega)]; omega
  refine FOk.wp (wR_wp pre post s c f m off mem b ps b ((ps.drop (rdA ps f)).take (rdK ps f m)) ?_)
  unfold wR_T
  rw [e1, e2, e3]
  simp only [Int.toNat_natCast, Nat.add_sub_cancel_left]
  rw [e4]
  exact ⟨decide_eq_true (by omega), cl_ok b ps hb hps hl _ _ hK, by first | trivial | exact ⟨rfl, rfl⟩⟩
end Go.MN
end

section
set_option linter.unusedVariables false
set_option linter.unusedSimpArgs false
set_option maxRecDepth 100000
namespace Go.MN
open Go Go.Abs Go.Proofs
theorem MT.gh {T T' : AState} {cs cs' : List Ch} {offs offs' : List ByteArray} (hM : MT T cs offs) (hM' : MT T' cs' offs') {f : FuncId} {rest : List AVal} {v : AVal} (hrest : idsInL [] rest = true) (hv : idsIn [] v = true)
    (h : FOk Tryd.prog f (.ptr 0 2 0 0 :: rest) T v T') : FOk Tryd.prog f (.ptr 0 2 0 0 :: rest) [.gh T] v [.gh T'] :=
  FOk.gh1 h rfl (by simp only [inScopeL, Bool.and_eq_true]; exact ⟨rfl, scopeL_closed rest hrest⟩) hM.ng (scope_closed v hv) hM'.ng ⟨_, hM'.h0, rfl⟩ (by have := hM.lt.1; omega)
theorem MT.step6 {f : FuncId} {rest : List AVal} {v : AVal} {T : AState} {cs1 cs2 : List Ch} {x : Ch} {offs : List ByteArray} (hM : MT T (cs1 ++ [x] ++ cs2) offs) (hrest : idsInL [] rest = true) (hv : idsIn [] v = true) (x' : Ch) (cP cQ : List Ch) (hPQ : ∀ y ∈ cP ++ cQ, y ∈ cs1 ++ cs2) (offs' : List ByteArray) (news : AState) (k : Nat) (o5 : AObj) (hp : x'.p = x.p) (hq : x'.q = x.q)
    (hr : (x'.r = x.r ∧ k = 5 ∧ o5 = .rows true 2 x'.ps ∧ news = []) ∨ (x'.r = T.length ∧ k = 6 ∧ o5 = .dead ∧ news = [.rows true 2 x'.ps]))
    (hnd : (List.range 3 ++ (cP ++ [x'] ++ cQ).flatMap Ch.pl).Nodup)
    (h : ∀ β, FOk Tryd.prog f (.ptr 0 2 0 0 :: rest) (H6 (hideE β (entsOf cs1)) (hideE β (entsOf cs2)) x.s x.c (gms offs) (gms x.us) x.b x.ps) v (.rows false 2 [[.map 1, .map 2]] :: .mq (hideE β (entsOf cP)) [(ky x'.s x'.c, .ptr 3 2 0 0)] (hideE β (entsOf cQ)) :: .mp true (gms offs') :: .rows false 2 [[.map 4, .slc x'.b k 2 0 x'.ps.length none]] :: .mp true (gms x'.us) :: o5 :: news)) :
    ∃ T', MT T' (cP ++ [x'] ++ cQ) offs' ∧ FOk Tryd.prog f (.ptr 0 2 0 0 :: rest) [.gh T] v [.gh T'] := by
  have hM' := hM.put x' cP cQ hPQ offs' news k o5 hp hq hr hnd
  refine ⟨_, hM', hM.gh hM' hrest hv ?_⟩
  have h2 := lift6 hM hrest hv hPQ h
  have he : entsOf cP ++ List.map (fun e => (ren (emb [0, 1, 2, x.p, x.q, x.r] T.length) e.1, ren (emb [0, 1, 2, x.p, x.q, x.r] T.length) e.2)) [(ky x'.s x'.c, AVal.ptr 3 2 0 0)] ++ entsOf cQ = entsOf (cP ++ [x'] ++ cQ) := by
    unfold entsOf
    rw [List.map_append, List.map_append]
    show _ ++ [(ky x'.s x'.c, AVal.ptr x.p 2 0 0)] ++ _ = _ ++ [(ky x'.s x'.c, AVal.ptr x'.p 2 0 0)] ++ _
    rw [hp]
  rw [he] at h2
  exact h2
theorem map_fix {φ : Nat → Nat} : ∀ {l : List Nat}, (∀ j ∈ l, φ j = j) → l.map φ = l
  | [], _ => rfl
  | x :: l, h => by rw [List.map_cons, h x (by simp), map_fix fun j hj => h j (by simp [hj])]
theorem MT.ndR {T : AState} {cs1 cs2 : List Ch} {x : Ch} {offs : List ByteArray} (hM : MT T (cs1 ++ [x] ++ cs2) offs) (x' : Ch) (hp : x'.p = x.p) (hq : x'.q = x.q) (hr : x'.r = x.r ∨ x'.r = T.length) : (List.range 3 ++ (cs1 ++ [x'] ++ cs2).flatMap Ch.pl).Nodup := by
  rcases hr with hr | hr
  · have : (cs1 ++ [x'] ++ cs2).flatMap Ch.pl = (cs1 ++ [x] ++ cs2).flatMap Ch.pl := by
      simp [List.flatMap_append, Ch.pl, hp, hq, hr]
    rw [this]; exact hM.nd
  obtain ⟨hlen, hlt⟩ := hM.lt
  obtain ⟨hge, npq, npr, nqr, hoth⟩ := hM.one
  have hold : ∀ y ∈ cs1 ++ cs2, y ∈ cs1 ++ [x] ++ cs2 := fun y hy => by
    rcases List.mem_append.1 hy with h | h <;> simp [h]
  have hfix : ∀ cs : List Ch, (∀ y ∈ cs, y ∈ cs1 ++ cs2) → (cs.flatMap Ch.pl).map (fun j => if j = x.r then T.length else j) = cs.flatMap Ch.pl := fun cs hcs => map_fix fun j hj => by
    obtain ⟨y, hy, hj⟩ := List.mem_flatMap.1 hj
    have := (hoth y (hcs y hy) j hj).2
    simp [Ch.pl] at this
    rw [if_neg this.2.2]
  have e : List.range 3 ++ (cs1 ++ [x'] ++ cs2).flatMap Ch.pl = (List.range 3 ++ (cs1 ++ [x] ++ cs2).flatMap Ch.pl).map (fun j => if j = x.r then T.length else j) := by
    have hx := hge x.r (by simp [Ch.pl])
    rw [List.map_append, List.flatMap_append, List.flatMap_append, List.flatMap_append, List.flatMap_append, List.map_append, List.map_append, hfix cs1 (fun y hy => by simp [hy]), hfix cs2 (fun y hy => by simp [hy]), map_fix (l := List.range 3) (fun j hj => by
      simp at hj
      rw [if_neg (by omega)])]
    simp [Ch.pl, hp, hq, hr, npr, nqr]
  rw [e]
  unfold List.Nodup
  rw [List.pairwise_map]
  refine List.Pairwise.imp_of_mem (fun {a b} ha hb hab => ?_) hM.nd
  have hb : ∀ j ∈ List.range 3 ++ (cs1 ++ [x] ++ cs2).flatMap Ch.pl, j < T.length := fun j hj => by
    rcases List.mem_append.1 hj with h | h
    · simp at h; omega
    · obtain ⟨y, hy, hj⟩ := List.mem_flatMap.1 h
      obtain ⟨q1, q2, q3⟩ := hlt y hy
      simp [Ch.pl] at hj; omega
  have h1 := hb a ha
  have h2 := hb b ‹_›
  split <;> split <;> omega
theorem MT.keep3 {T : AState} {cs : List Ch} {offs : List ByteArray} (hM : MT T cs offs) : MT (putT3 T (.rows false 2 [[.map 1, .map 2]]) (.mp true (gms offs)) [] (entsOf cs)) cs offs := by
  obtain ⟨g0, g1, g2, g6, g7⟩ := putT3_get hM (.rows false 2 [[.map 1, .map 2]]) (.mp true (gms offs)) [] (entsOf cs)
  obtain ⟨hlen, hlt⟩ := hM.lt
  have hge : ∀ y ∈ cs, ∀ j ∈ y.pl, 3 ≤ j ∧ j < T.length := fun y hy j hj => by
    have hn := hM.nd
    rw [List.nodup_append] at hn
    obtain ⟨a, b, c⟩ := hlt y hy
    refine ⟨?_, by simp [Ch.pl] at hj; omega⟩
    rcases Nat.lt_or_ge j 3 with h | h
    · exact absurd rfl (hn.2.2 j (by simpa using h) j (List.mem_flatMap.2 ⟨y, hy, hj⟩))
    · exact h
  refine ⟨by rw [g0]; rfl, by rw [g1], by rw [g2]; rfl, fun y hy => ?_, fun y hy => ?_, fun y hy => ?_, hM.nd, putT3_gh hM _ rfl⟩
  · have := hge y hy y.p (by simp [Ch.pl])
    rw [g6 y.p this.2 this.1]; exact hM.hp y hy
  · have := hge y hy y.q (by simp [Ch.pl])
    rw [g6 y.q this.2 this.1]; exact hM.hq y hy
  · have := hge y hy y.r (by simp [Ch.pl])
    rw [g6 y.r this.2 this.1]; exact hM.hr y hy
theorem MT.same3 {f : FuncId} {rest : List AVal} {v : AVal} {T : AState} {cs : List Ch} {offs : List ByteArray} (hM : MT T cs offs) (hrest : idsInL [] rest = true) (hv : idsIn [] v = true)
    (h : ∀ β, FOk Tryd.prog f (.ptr 0 2 0 0 :: rest) (H3 (hideE β (entsOf cs)) (gms offs)) v (H3 (hideE β (entsOf cs)) (gms offs))) : ∃ T', MT T' cs offs ∧ FOk Tryd.prog f (.ptr 0 2 0 0 :: rest) [.gh T] v [.gh T'] := by
  refine ⟨_, hM.keep3, hM.gh hM.keep3 hrest hv ?_⟩
  have h2 := lift3 (own := []) hM hrest hv h
  rw [show entsOf cs ++ ent0 (emb [0, 1, 2] T.length) [] = entsOf cs by simp] at h2
  exact h2

structure Mo where
  s : ByteArray
  c : ByteArray
  us : List ByteArray
  ps : List (List AVal)
abbrev Ch.mo (x : Ch) : Mo := ⟨x.s, x.c, x.us, x.ps⟩
def noMo (s c : ByteArray) (m : List Mo) : Prop := ∀ k ∈ m, ¬ (k.s = s ∧ k.c = c)
structure MoOk (k : Mo) : Prop where
  nd : k.us.Nodup
  len : k.ps.length ≤ 1024
  posts : ∀ r ∈ k.ps, isPost r
structure MX (T : AState) (m : List Mo) (offs : List ByteArray) : Prop where
  ex : ∃ cs : List Ch, cs.map Ch.mo = m ∧ MT T cs offs ∧ ∀ x ∈ cs, x.b = true → x.ps = []
def Done (op : AVal) (T : AState) (r : AVal) (m' : List Mo) (offs' : List ByteArray) : Prop := ∃ T', MX T' m' offs' ∧ FOk Tryd.prog 13 [.ptr 0 2 0 0, op] [.gh T] r [.gh T']
theorem noMo_ch {s c : ByteArray} {cs : List Ch} (h : noMo s c (cs.map Ch.mo)) : noCh s c cs := fun x hx he => h x.mo (List.mem_map.2 ⟨x, hx, rfl⟩) he
theorem MX.split {T : AState} {m1 m2 : List Mo} {k : Mo} {offs : List ByteArray} (h : MX T (m1 ++ [k] ++ m2) offs) : ∃ cs1 x cs2, cs1.map Ch.mo = m1 ∧ x.mo = k ∧ cs2.map Ch.mo = m2 ∧ MT T (cs1 ++ [x] ++ cs2) offs ∧ ∀ y ∈ cs1 ++ [x] ++ cs2, y.b = true → y.ps = [] := by
  obtain ⟨cs, h1, h2, h3⟩ := h.ex
  obtain ⟨l12, cs2, rfl, h4, h5⟩ := List.map_eq_append_iff.1 h1
  obtain ⟨cs1, l, rfl, h6, h7⟩ := List.map_eq_append_iff.1 h4
  obtain ⟨x, rfl, h8⟩ : ∃ x, l = [x] ∧ x.mo = k := by
    match l, h7 with
    | [x], h7 => exact ⟨x, rfl, by simpa using h7⟩
  exact ⟨cs1, x, cs2, h6, h8, h5, h2, h3⟩
theorem doA {T : AState} {m : List Mo} {offs : List ByteArray} (h : MX T m offs) (k : Int) (s c u x y z : ByteArray) (f n : Int) (ck : FOk Tryd.prog 21 [opw k s c u x y z f n] [] (.int .i64 1) []) : Done (opw k s c u x y z f n) T (rep 1 0 nilps) m offs := by
  obtain ⟨cs, rfl, hM, hb⟩ := h.ex
  obtain ⟨T', h1, h2⟩ := hM.same3 rfl rfl fun β => doA3 (hideE β (entsOf cs)) (gms offs) k s c u x y z f n ck
  exact ⟨T', ⟨cs, rfl, h1, hb⟩, h2⟩
theorem doN {T : AState} {m : List Mo} {offs : List ByteArray} (h : MX T m offs) (k : Int) (s c u x y z : ByteArray) (f n : Int) (ck : FOk Tryd.prog 21 [opw k s c u x y z f n] [] (.int .i64 0) []) (hn : noMo s c m) (h1 : k ≠ 1) (h6 : k ≠ 6) (h7 : k ≠ 7) : Done (opw k s c u x y z f n) T (rep 3 0 nilps) m offs := by
  obtain ⟨cs, rfl, hM, hb⟩ := h.ex
  obtain ⟨T', h1, h2⟩ := hM.same3 rfl rfl fun β => doN3 (hideE β (entsOf cs)) (gms offs) k s c u x y z f n ck (hide_keys β cs) (afind_none β s c cs (noMo_ch hn)) h1 h6 h7
  exact ⟨T', ⟨cs, rfl, h1, hb⟩, h2⟩
theorem doM {T : AState} {m : List Mo} {offs : List ByteArray} (h : MX T m offs) (s c : ByteArray) (ck : FOk Tryd.prog 21 [opw 1 s c w0 w0 w0 w0 0 0] [] (.int .i64 0) []) (hn : noMo s c m) : Done (opw 1 s c w0 w0 w0 w0 0 0) T (rep 0 0 nilps) (m ++ [⟨s, c, [], []⟩]) offs := by
  obtain ⟨cs, rfl, hM, hb⟩ := h.ex
  have h2 := lift3 (f := 13) (rest := [opw 1 s c w0 w0 w0 w0 0 0]) (v := rep 0 0 nilps) (own := [(ky s c, .ptr 3 2 0 0)]) hM rfl rfl fun β => doM3 (hideE β (entsOf cs)) (gms offs) s c ck (hide_keys β cs) (afind_none β s c cs (noMo_ch hn))
  have hM' := hM.make s c
  refine ⟨_, ⟨_, ?_, hM', ?_⟩, hM.gh hM' rfl rfl ?_⟩
  · simp
  · intro x hx hxb
    rcases List.mem_append.1 hx with hx | hx
    · exact hb x hx hxb
    · simp at hx; subst hx; rfl
  · have e : entsOf cs ++ ent0 (emb [0, 1, 2] T.length) [(ky s c, .ptr 3 2 0 0)] = entsOf (cs ++ [⟨s, c, [], [], true, T.length, T.length + 1, T.length + 2⟩]) := by
      unfold entsOf
      rw [List.map_append]
      show _ ++ [(ky s c, AVal.ptr (emb [0, 1, 2] T.length 3) 2 0 0)] = _ ++ [(ky s c, AVal.ptr T.length 2 0 0)]
      rfl
    rw [e] at h2
    exact h2
theorem doK {T : AState} {m1 m2 : List Mo} {k : Mo} {offs : List ByteArray} (h : MX T (m1 ++ [k] ++ m2) offs) {op v : AVal} (hop : idsInL [] [op] = true) (hv : idsIn [] v = true) (hn : noMo k.s k.c m1)
    (hd : ∀ (pre post : Ents) (b : Bool), keysOk (pre ++ post) → afind (ky k.s k.c) pre = none → (b = true → k.ps = []) → FOk Tryd.prog 13 [.ptr 0 2 0 0, op] (H6 pre post k.s k.c (gms offs) (gms k.us) b k.ps) v (H6 pre post k.s k.c (gms offs) (gms k.us) b k.ps)) : Done op T v (m1 ++ [k] ++ m2) offs := by
  obtain ⟨cs1, x, cs2, rfl, rfl, rfl, hM, hb⟩ := h.split
  obtain ⟨T', h1, h2⟩ := hM.step6 hop hv x cs1 cs2 (fun y hy => hy) offs [] 5 (.rows true 2 x.ps) rfl rfl (.inl ⟨rfl, rfl, rfl, rfl⟩) hM.nd fun β => hd _ _ x.b (by rw [← hide_app, show entsOf cs1 ++ entsOf cs2 = entsOf (cs1 ++ cs2) by simp [entsOf]]; exact hide_keys β _) (afind_none β _ _ cs1 (noMo_ch hn)) (hb x (by simp))
  exact ⟨T', ⟨_, by simp, h1, hb⟩, h2⟩
theorem doU {T : AState} {m1 m2 : List Mo} {k : Mo} {offs us' : List ByteArray} (h : MX T (m1 ++ [k] ++ m2) offs) {op v : AVal} (hop : idsInL [] [op] = true) (hv : idsIn [] v = true) (hn : noMo k.s k.c m1)
    (hd : ∀ (pre post : Ents) (b : Bool), keysOk (pre ++ post) → afind (ky k.s k.c) pre = none → (b = true → k.ps = []) → FOk Tryd.prog 13 [.ptr 0 2 0 0, op] (H6 pre post k.s k.c (gms offs) (gms k.us) b k.ps) v (H6 pre post k.s k.c (gms offs) (gms us') b k.ps)) : Done op T v (m1 ++ [⟨k.s, k.c, us', k.ps⟩] ++ m2) offs := by
  obtain ⟨cs1, x, cs2, rfl, rfl, rfl, hM, hb⟩ := h.split
  obtain ⟨T', h1, h2⟩ := hM.step6 hop hv { x with us := us' } cs1 cs2 (fun y hy => hy) offs [] 5 (.rows true 2 x.ps) rfl rfl (.inl ⟨rfl, rfl, rfl, rfl⟩) (hM.ndR _ rfl rfl (.inl rfl)) fun β => hd _ _ x.b (by rw [← hide_app, show entsOf cs1 ++ entsOf cs2 = entsOf (cs1 ++ cs2) by simp [entsOf]]; exact hide_keys β _) (afind_none β _ _ cs1 (noMo_ch hn)) (hb x (by simp))
  refine ⟨T', ⟨_, by simp, h1, fun y hy => ?_⟩, h2⟩
  simp only [List.mem_append, List.mem_singleton] at hy
  rcases hy with (hy | rfl) | hy
  · exact hb y (by simp [hy])
  · exact hb x (by simp)
  · exact hb y (by simp [hy])
theorem doT {T : AState} {m1 m2 : List Mo} {k : Mo} {offs : List ByteArray} (h : MX T (m1 ++ [k] ++ m2) offs) (u x : ByteArray) (ck : FOk Tryd.prog 21 [opw 3 k.s k.c u x w0 w0 0 0] [] (.int .i64 0) []) (hn : noMo k.s k.c m1) (h1 : u ∉ offs) (h2 : u ∈ k.us) (hp : k.ps.length < 1024) :
    Done (opw 3 k.s k.c u x w0 w0 0 0) T (rep 0 k.ps.length nilps) (m1 ++ [⟨k.s, k.c, k.us, k.ps ++ [[.str u, .str x]]⟩] ++ m2) offs := by
  obtain ⟨cs1, y, cs2, rfl, rfl, rfl, hM, hb⟩ := h.split
  obtain ⟨T', h3, h4⟩ := hM.step6 (f := 13) (rest := [opw 3 y.s y.c u x w0 w0 0 0]) (v := rep 0 y.ps.length nilps) rfl rfl { y with ps := y.ps ++ [[.str u, .str x]], b := y.b && false, r := T.length } cs1 cs2 (fun y hy => hy) offs [.rows true 2 (y.ps ++ [[.str u, .str x]])] 6 .dead rfl rfl (.inr ⟨rfl, rfl, rfl, rfl⟩) (hM.ndR _ rfl rfl (.inr rfl)) fun β => by
    have := doP (hideE β (entsOf cs1)) (hideE β (entsOf cs2)) y.s y.c u x offs y.us y.b y.ps ck (by rw [← hide_app, show entsOf cs1 ++ entsOf cs2 = entsOf (cs1 ++ cs2) by simp [entsOf]]; exact hide_keys β _) (afind_none β _ _ cs1 (noMo_ch hn)) h1 h2 hp
    simpa using this
  refine ⟨T', ⟨_, by simp, h3, fun z hz => ?_⟩, h4⟩
  simp only [List.mem_append, List.mem_singleton] at hz
  rcases hz with (hz | rfl) | hz
  · exact hb z (by simp [hz])
  · intro h; simp at h
  · exact hb z (by simp [hz])
end Go.MN
end

section
set_option linter.unusedVariables false
set_option maxRecDepth 100000
namespace Go.MN
open Go Go.Abs Go.Proofs
abbrev A3 (β : Nat → Nat) (ents off : Ents) (bs : List Nat) (k : Nat) : AState := [.rows false 2 [[.map 1, .map 2]], .mpn true (hideE β ents) bs k, .mp true off]
abbrev opR (u : ByteArray) : AObj := .rows true 9 [[.int .i64 7, .str w0, .str w0, .str u, .str w0, .str w0, .str w0, .int .i64 0, .int .i64 0]]
abbrev A7o (β : Nat → Nat) (ents off : Ents) (bs : List Nat) (k : Nat) (u : ByteArray) (it : AObj) : AState := [.rows false 2 [[.map 1, .map 2]], .mpn true (hideE β ents) bs k, .mp true off, opR u, .rows false 3 [[.int .i64 0, .int .i64 0, .fsl true 0 [] (some 0)]], .rows true 2 [[.str w0, .str w0]], it]
abbrev A7 (β : Nat → Nat) (ents off : Ents) (bs se : List Nat) (k : Nat) (u : ByteArray) : AState := A7o β ents off bs k u (.miter (some 1) k se k)
abbrev RA : Regs := mkR 97 [(3, .ptr 3 9 0 0), (4, .ptr 4 3 0 0), (77, .ptr 6 1 0 0)]
abbrev RE : Regs := mkR 97 [(3, .ptr 3 9 0 0), (4, .ptr 4 3 0 0)]
abbrev iqQF : Int → AVal := AVal.int IntKind.i64
open Go.Abs.AVal (str agg ptr slc fsl tuple nilp)
open Go.Abs.Dec (br use)
open Go.Abs.AExit (normal)
open Go.Abs.AObj (mp mq dead)
abbrev z0QF (u : ByteArray) : List AVal := [iqQF 7, str w0, str w0, str u, str w0, str w0, str w0, iqQF 0, iqQF 0]
abbrev z1QF (β : Nat → Nat) (ents : Ents) (bs : List Nat) (k : Nat) (off : Ents) : AState := [AObj.rows false 2 [[AVal.map 1, AVal.map 2]], AObj.mpn true (hideE β ents) bs k, AObj.mp true off]
abbrev z2QF (β : Nat → Nat) (ents : Ents) (bs : List Nat) (k : Nat) (u : ByteArray) (off : Ents) : AState := [AObj.rows false 2 [[AVal.map 1, AVal.map 2]], AObj.mpn true (hideE β ents) bs k, AObj.mp true (aput (str u) (AVal.tt true) off), AObj.rows true 9 [(z0QF u)], AObj.rows false 3 [[iqQF 0, iqQF 0, fsl true 0 [] (some 0)]], AObj.rows true 2 [[str w0, str w0]], AObj.dead]
abbrev z3QF (pre : Ents) (off : Ents) : AState := [AObj.rows false 2 [[AVal.map 1, AVal.map 2]], AObj.mq pre [] [], AObj.mp true off]
abbrev z4QF (β : Nat → Nat) (ents : Ents) (bs : List Nat) (k : Nat) (off : Ents) (u : ByteArray) : AState := [AObj.rows false 2 [[AVal.map 1, AVal.map 2]], AObj.mpn true (hideE β ents) bs k, AObj.mp true off, AObj.rows true 9 [(z0QF u)], AObj.rows false 3 [[iqQF 0, iqQF 0, fsl true 0 [] (some 0)]]]
abbrev z5QF (pre : Ents) (off : Ents) (u : ByteArray) : AState := [AObj.rows false 2 [[AVal.map 1, AVal.map 2]], AObj.mq pre [] [], AObj.mp true off, AObj.rows true 9 [(z0QF u)], AObj.rows false 3 [[iqQF 0, iqQF 0, fsl true 0 [] (some 0)]]]
theorem dOX_1 (off : Ents) (ents : Ents) (u : ByteArray) (bs : List Nat) (k : Nat) (L : Nat) (Ts : Nat → AState) (β : Nat → Nat) (I : List Nat) (N : Nat) (hI : ∀ id ∈ I, id < N) (hnd : Go.Abs.nodupB ([0, 1, 2]) = true) (hlt : ∀ j ∈ ([0, 1, 2] : List Nat), j < L) (hL : ∀ i, (Ts i).length = L) (hN : N = (plug (Ts 0) ([0, 1, 2]) (A3 β ents off bs k)).length)
    (h1 : Owed.loop (owedX Tryd.prog 3 [0, 1, 2] L Ts β I N 0) (loopNo Tryd.f13 0) (mkR 97 [(3, ptr 3 9 0 0), (4, ptr 4 3 0 0), (77, ptr 6 1 0 0)]) [AObj.rows false 2 [[AVal.map 1, AVal.map 2]], AObj.mpn true (hideE β ents) bs k, mp true (aput (str u) (AVal.tt true) off), AObj.rows true 9 [(z0QF u)], AObj.rows false 3 [[iqQF 0, iqQF 0, fsl true 0 [] (some 0)]], AObj.rows true 2 [[str w0, str w0]], AObj.miter (some 1) k [] k] (AExit.exit 1) (mkR 97 [(3, ptr 3 9 0 0), (4, ptr 4 3 0 0)]) (z2QF β ents bs k u off))
    (h2 : (List.all off fun p => keyKind Tryd.prog 9 (Prod.fst p)) = true)
    (h3 : (if false = true then tuple [asType Tryd.prog 4 (reifyL [Kind.bool] (AVal.cells (Option.getD (afind (str u) off) (AVal.tt false)))), AVal.tt (Option.isSome (afind (str u) off))] else asType Tryd.prog 4 (reifyL [Kind.bool] (AVal.cells (Option.getD (afind (str u) off) (AVal.tt false))))) = AVal.bool false)
    (h4 : okCells Tryd.prog 4 (Option.getD (afind (str u) off) (AVal.tt false)) = true)
    (h5 : tuple [asType Tryd.prog 70 (reifyL [Kind.other] (AVal.cells (Option.getD (afind (agg [str w0, str w0]) (hideE β ents)) nilp))), AVal.tt (Option.isSome (afind (agg [str w0, str w0]) (hideE β ents)))] = tuple [nilp, AVal.tt false])
    (h6 : okCells Tryd.prog 70 (Option.getD (afind (agg [str w0, str w0]) (hideE β ents)) nilp) = true)
    (h7 : (List.all (hideE β ents) fun p => keyKind Tryd.prog 69 (Prod.fst p)) = true)
    (h8 : FOk Tryd.prog 21 [agg (z0QF u)] [] (iqQF 0) [])
    (h9 : FOk Tryd.prog 27 [ptr 0 2 0 0] (z1QF β ents bs k off) (AVal.bool true) (z1QF β ents bs k off)) :
    FOkB Tryd.prog β I 13 (renL (emb ([0, 1, 2]) L) ([ptr 0 2 0 0, opw 7 w0 w0 u w0 w0 w0 0 0])) (plug (Ts 0) ([0, 1, 2]) (A3 β ents off bs k)) (ren (emb ([0, 1, 2]) L) (agg [iqQF 0, iqQF 0, fsl true 2 [] none])) (plug (Ts 1) ([0, 1, 2]) ((z2QF β ents bs k u off))) :=
  (evalFX_ok followed Tryd.func13 (by kernel_rfl) hI hnd hlt hL hN (show evalFX Tryd.prog (owedX Tryd.prog 3 [0, 1, 2] L Ts β I N) 3 1 Tryd.f13 ([ptr 0 2 0 0, opw 7 w0 w0 u w0 w0 w0 0 0]) (A3 β ents off bs k) ([use [0, 1, 2] [ptr 0 2 0 0] (z1QF β ents bs k off) (AVal.bool true) (z1QF β ents bs k off), br false, use [] [agg (z0QF u)] [] (iqQF 0) [], br false, Dec.rw (tuple [nilp, AVal.tt false]), br false, br false, br true, Dec.rw (AVal.bool false), br false, Dec.compact (keepM 97 [3, 4, 77]) [0, 1, 2, 3, 4, 6], Dec.loop (AExit.exit 1) RE (A7o β ents (aput (str u) (AVal.tt true) off) bs k u dead)]) = .ok (FRes.mk (agg [iqQF 0, iqQF 0, fsl true 2 [] none]) ((z2QF β ents bs k u off)) (tr 4 ++ ((_) :: (tr 4 ++ ((_) :: (tr 22 ++ ((false = false) :: (tr 2 ++ ((_) :: ((_) :: ((_) :: (tr 23 ++ ((false = false) :: ((false = false) :: (tr 15 ++ ((_) :: ((_) :: ((_) :: (tr 28 ++ ((false = false) :: ((Owed.use (owedX Tryd.prog 3 [0, 1, 2] L Ts β I N 0) 21 [] [agg (z0QF u)] (z4QF β ents bs k off u) [agg (z0QF u)] [] (iqQF 0) []) :: (tr 3 ++ ((false = false) :: ((Owed.use (owedX Tryd.prog 3 [0, 1, 2] L Ts β I N 0) 27 [0, 1, 2] [ptr 0 2 0 0] (z4QF β ents bs k off u) [ptr 0 2 0 0] (z1QF β ents bs k off) (AVal.bool true) (z1QF β ents bs k off)) :: [])))))))))))))))))))))))) by kernel_rfl) (allP_of (trC 4 ⟨h1, (trC 4 ⟨h2, (trC 22 ⟨rfl, (trC 2 ⟨h3, ⟨h4, ⟨h2, (trC 23 ⟨rfl, ⟨rfl, (trC 15 ⟨h5, ⟨h6, ⟨h7, (trC 28 ⟨rfl, ⟨⟨h8, rfl, rfl, rfl⟩, (trC 3 ⟨rfl, ⟨⟨h9, rfl, rfl, rfl⟩, trivial⟩⟩)⟩⟩)⟩⟩⟩)⟩⟩)⟩⟩⟩)⟩)⟩)⟩)))


theorem gv3n_1 (β : Nat → Nat) (ents : Ents) (off : Ents) (bs : List Nat) (k : Nat) :
    FOk Tryd.prog 27 ([ptr 0 2 0 0]) (A3 β ents off bs k) (AVal.bool true) ((z1QF β ents bs k off)) :=
  (evalF_ok followed Tryd.func27 (by kernel_rfl) (show evalF Tryd.prog Tryd.f27 ([ptr 0 2 0 0]) (A3 β ents off bs k) ([br true]) = .ok (FRes.mk (AVal.bool true) ((z1QF β ents bs k off)) (tr 3 ++ [])) by kernel_rfl) (allP_of (trC 3 trivial))).move ([0, 1, 2]) (by kernel_rfl) (by kernel_rfl) (by kernel_rfl)

def gv3n_T (β : Nat → Nat) (ents : Ents) (off : Ents) (bs : List Nat) (k : Nat) (Q : AVal → AState → Prop) : Prop := Q (AVal.bool true) ([AObj.rows false 2 [[AVal.map 1, AVal.map 2]], AObj.mpn true (hideE β ents) bs k, AObj.mp true off])
theorem gv3n_wp (β : Nat → Nat) (ents : Ents) (off : Ents) (bs : List Nat) (k : Nat) {Q : AVal → AState → Prop} (h : gv3n_T β ents off bs k Q) : ∃ r σ', FOk Tryd.prog 27 ([ptr 0 2 0 0]) (A3 β ents off bs k) r σ' ∧ Q r σ' :=
  ⟨_, _, gv3n_1 β ents off bs k, h⟩


theorem dF3_1 (pre : Ents) (off : Ents) (u : ByteArray)
    (h1 : FOk Tryd.prog 28 [iqQF 92] [] (agg [iqQF 92, iqQF 0, fsl true 2 [] none]) [])
    (h2 : (if false = true then tuple [asType Tryd.prog 4 (reifyL [Kind.bool] (AVal.cells (Option.getD (afind (str u) off) (AVal.tt false)))), AVal.tt (Option.isSome (afind (str u) off))] else asType Tryd.prog 4 (reifyL [Kind.bool] (AVal.cells (Option.getD (afind (str u) off) (AVal.tt false))))) = AVal.bool true)
    (h3 : okCells Tryd.prog 4 (Option.getD (afind (str u) off) (AVal.tt false)) = true)
    (h4 : (List.all off fun p => keyKind Tryd.prog 9 (Prod.fst p)) = true)
    (h5 : tuple [Option.getD (afind (agg [str w0, str w0]) (pre ++ [] ++ [])) nilp, AVal.tt (Option.isSome (afind (agg [str w0, str w0]) (pre ++ [] ++ [])))] = tuple [nilp, AVal.tt false])
    (h6 : (List.all (pre ++ [] ++ []) fun p => keyKind Tryd.prog 69 (Prod.fst p)) = true)
    (h7 : FOk Tryd.prog 21 [agg (z0QF u)] [] (iqQF 0) [])
    (h8 : FOk Tryd.prog 27 [ptr 0 2 0 0] (z3QF pre off) (AVal.bool true) (z3QF pre off)) :
    FOk Tryd.prog 13 ([ptr 0 2 0 0, opw 7 w0 w0 u w0 w0 w0 0 0]) (H3 pre off) (agg [iqQF 92, iqQF 0, fsl true 2 [] none]) ((z3QF pre off)) :=
  (evalF_ok followed Tryd.func13 (by kernel_rfl) (show evalF Tryd.prog Tryd.f13 ([ptr 0 2 0 0, opw 7 w0 w0 u w0 w0 w0 0 0]) (H3 pre off) ([use [0, 1, 2] [ptr 0 2 0 0] (z3QF pre off) (AVal.bool true) (z3QF pre off), br false, use [] [agg (z0QF u)] [] (iqQF 0) [], br false, Dec.rw (tuple [nilp, AVal.tt false]), br false, br false, br true, Dec.rw (AVal.bool true), br true, use [] [iqQF 92] [] (rep 92 0 nilps) []]) = .ok (FRes.mk (agg [iqQF 92, iqQF 0, fsl true 2 [] none]) ([AObj.rows false 2 [[AVal.map 1, AVal.map 2]], mq pre [] [], mp true off, AObj.rows true 9 [(z0QF u)], AObj.rows false 3 [[iqQF 92, iqQF 0, fsl true 2 [] none]], AObj.rows true 2 [[str w0, str w0]]]) (tr 4 ++ ((Owed.use (owed Tryd.prog 3) 28 [] [iqQF 92] [AObj.rows false 2 [[AVal.map 1, AVal.map 2]], mq pre [] [], mp true off, AObj.rows true 9 [(z0QF u)], AObj.rows false 3 [[iqQF 0, iqQF 0, fsl true 0 [] (some 0)]], AObj.rows true 2 [[str w0, str w0]]] [iqQF 92] [] (agg [iqQF 92, iqQF 0, fsl true 2 [] none]) []) :: (tr 3 ++ ((_) :: ((_) :: ((_) :: (tr 23 ++ ((false = false) :: ((false = false) :: (tr 15 ++ ((_) :: ((_) :: (tr 28 ++ ((false = false) :: ((Owed.use (owed Tryd.prog 3) 21 [] [agg (z0QF u)] (z5QF pre off u) [agg (z0QF u)] [] (iqQF 0) []) :: (tr 3 ++ ((false = false) :: ((Owed.use (owed Tryd.prog 3) 27 [0, 1, 2] [ptr 0 2 0 0] (z5QF pre off u) [ptr 0 2 0 0] (z3QF pre off) (AVal.bool true) (z3QF pre off)) :: []))))))))))))))))))) by kernel_rfl) (allP_of (trC 4 ⟨⟨h1, rfl, rfl, rfl⟩, (trC 3 ⟨h2, ⟨h3, ⟨h4, (trC 23 ⟨rfl, ⟨rfl, (trC 15 ⟨h5, ⟨h6, (trC 28 ⟨rfl, ⟨⟨h7, rfl, rfl, rfl⟩, (trC 3 ⟨rfl, ⟨⟨h8, rfl, rfl, rfl⟩, trivial⟩⟩)⟩⟩)⟩⟩)⟩⟩)⟩⟩⟩)⟩))).move ([0, 1, 2]) (by kernel_rfl) (by kernel_rfl) (by kernel_rfl)

def dF3_T (pre : Ents) (off : Ents) (u : ByteArray) (Q : AVal → AState → Prop) : Prop := (FOk Tryd.prog 27 [AVal.ptr 0 2 0 0] [AObj.rows false 2 [[AVal.map 1, AVal.map 2]], AObj.mq pre [] [], AObj.mp true off] (AVal.bool true) [AObj.rows false 2 [[AVal.map 1, AVal.map 2]], AObj.mq pre [] [], AObj.mp true off]) ∧ (FOk Tryd.prog 21 [AVal.agg [AVal.int IntKind.i64 7, AVal.str w0, AVal.str w0, AVal.str u, AVal.str w0, AVal.str w0, AVal.str w0, AVal.int IntKind.i64 0, AVal.int IntKind.i64 0]] [] (AVal.int IntKind.i64 0) []) ∧ ((List.all (pre ++ [] ++ []) fun p => keyKind Tryd.prog 69 (Prod.fst p)) = true) ∧ (AVal.tuple [Option.getD (afind (AVal.agg [AVal.str w0, AVal.str w0]) (pre ++ [] ++ [])) AVal.nilp, AVal.tt (Option.isSome (afind (AVal.agg [AVal.str w0, AVal.str w0]) (pre ++ [] ++ [])))] = AVal.tuple [AVal.nilp, AVal.tt false]) ∧ ((List.all off fun p => keyKind Tryd.prog 9 (Prod.fst p)) = true) ∧ (okCells Tryd.prog 4 (Option.getD (afind (AVal.str u) off) (AVal.tt false)) = true) ∧ ((if false = true then AVal.tuple [asType Tryd.prog 4 (reifyL [Kind.bool] (AVal.cells (Option.getD (afind (AVal.str u) off) (AVal.tt false)))), AVal.tt (Option.isSome (afind (AVal.str u) off))] else asType Tryd.prog 4 (reifyL [Kind.bool] (AVal.cells (Option.getD (afind (AVal.str u) off) (AVal.tt false))))) = AVal.bool true) ∧ (FOk Tryd.prog 28 [AVal.int IntKind.i64 92] [] (AVal.agg [AVal.int IntKind.i64 92, AVal.int IntKind.i64 0, AVal.fsl true 2 [] none]) []) ∧ Q (AVal.agg [AVal.int IntKind.i64 92, AVal.int IntKind.i64 0, AVal.fsl true 2 [] none]) ([AObj.rows false 2 [[AVal.map 1, AVal.map 2]], AObj.mq pre [] [], AObj.mp true off])
theorem dF3_wp (pre : Ents) (off : Ents) (u : ByteArray) {Q : AVal → AState → Prop} (h : dF3_T pre off u Q) : ∃ r σ', FOk Tryd.prog 13 ([ptr 0 2 0 0, opw 7 w0 w0 u w0 w0 w0 0 0]) (H3 pre off) r σ' ∧ Q r σ' :=
  ⟨_, _, dF3_1 pre off u (h.2.2.2.2.2.2.2.1) (h.2.2.2.2.2.2.1) (h.2.2.2.2.2.1) (h.2.2.2.2.1) (h.2.2.2.1) (h.2.2.1) (h.2.1) (h.1), h.2.2.2.2.2.2.2.2⟩


end Go.MN
end

section
set_option linter.unusedVariables false
set_option maxRecDepth 100000
namespace Go.MN
open Go Go.Abs Go.Proofs
abbrev iqQG : Int → AVal := AVal.int IntKind.i64
open Go.Abs.AVal (str agg ptr slc fsl tuple nilp)
open Go.Abs.Dec (br use)
open Go.Abs.AExit (normal)
open Go.Abs.AObj (mp mq dead)
abbrev z0QG (β : Nat → Nat) (ents : Ents) (bs : List Nat) (k : Nat) (off : Ents) (b : Bool) (ps : List (List AVal)) (u : ByteArray) (us : List ByteArray) (se : List Nat) : AState := [AObj.rows false 2 [[AVal.map 1, AVal.map 2]], AObj.mpn true (hideE β ents) bs k, AObj.mp true off, AObj.rows false 2 [[AVal.map 4, slc b 5 2 0 (List.length ps) none]], AObj.mp true (adel (str u) (gms us)), AObj.rows true 2 ps, AObj.rows true 9 [[iqQG 7, str w0, str w0, str u, str w0, str w0, str w0, iqQG 0, iqQG 0]], AObj.rows false 3 [[iqQG 0, iqQG 0, fsl true 0 [] (some 0)]], AObj.rows true 2 [[str w0, str w0]], AObj.miter (some 1) k se k]
abbrev z1QG (β : Nat → Nat) (ents : Ents) (bs : List Nat) (k : Nat) (off : Ents) (u : ByteArray) (se : List Nat) : AState := [AObj.rows false 2 [[AVal.map 1, AVal.map 2]], AObj.mpn true (hideE β ents) bs k, AObj.mp true off, AObj.rows true 9 [[iqQG 7, str w0, str w0, str u, str w0, str w0, str w0, iqQG 0, iqQG 0]], AObj.rows false 3 [[iqQG 0, iqQG 0, fsl true 0 [] (some 0)]], AObj.rows true 2 [[str w0, str w0]], AObj.miter (some 1) k se k]
def fstOf : Code → Code
  | .seq x _ => x
  | c => c
def blkOf : Code → Code
  | .block _ c => c
  | c => c
noncomputable abbrev oBody : Code := blkOf (restOf (restOf (loopNo Tryd.f13 0)))
abbrev A10 (β : Nat → Nat) (ents off : Ents) (bs se : List Nat) (k : Nat) (u : ByteArray) (b : Bool) (us : List ByteArray) (ps : List (List AVal)) : AState := [.rows false 2 [[.map 1, .map 2]], .mpn true (hideE β ents) bs k, .mp true off, .rows false 2 [[.map 4, .slc b 5 2 0 ps.length none]], .mp true (gms us), .rows true 2 ps, opR u, .rows false 3 [[.int .i64 0, .int .i64 0, .fsl true 0 [] (some 0)]], .rows true 2 [[.str w0, .str w0]], .miter (some 1) k se k]
theorem eA_1 (β : Nat → Nat) (ents : Ents) (off : Ents) (u : ByteArray) (bs : List Nat) (se : List Nat) (k : Nat) (bt : Nat) (s : ByteArray) (y : ByteArray)
    (h1 : Option.getD (entV (hideE β ents) bs se) AVal.any = tuple [agg [str s, str y], AVal.blk bt 2 0 0])
    (h2 : Option.isSome (entV (hideE β ents) bs se) = true) :
    TripN Tryd.prog 7 (fstOf oBody) (mkR 97 [(3, ptr 3 9 0 0), (4, ptr 4 3 0 0), (77, ptr 6 1 0 0), (79, AVal.tt true)]) (A7 β ents off bs se k u) (normal) (mkR 97 [(3, ptr 3 9 0 0), (4, ptr 4 3 0 0), (9, AVal.blk bt 2 0 0), (77, ptr 6 1 0 0)]) ((z1QG β ents bs k off u se)) :=
  evalT (st := St.mk (mkR 97 [(3, ptr 3 9 0 0), (4, ptr 4 3 0 0), (77, ptr 6 1 0 0), (79, AVal.tt true)]) (A7 β ents off bs se k u) ([Dec.rw (tuple [ky s y, AVal.blk bt 2 0 0])]) []) (st' := St.mk (mkR 97 [(3, ptr 3 9 0 0), (4, ptr 4 3 0 0), (9, AVal.blk bt 2 0 0), (77, ptr 6 1 0 0), (79, AVal.tt true), (80, tuple [agg [str s, str y], AVal.blk bt 2 0 0]), (81, AVal.blk bt 2 0 0)]) ((z1QG β ents bs k off u se)) ([]) ((_) :: ((_) :: ((k = k) :: [])))) followed (by kernel_rfl) (allP_of ⟨h1, ⟨h2, ⟨rfl, trivial⟩⟩⟩) (keepM 97 [3, 4, 9, 77]) ([0, 1, 2, 3, 4, 5, 6]) (by kernel_rfl) (by kernel_rfl) (by kernel_rfl)

def eA_T (β : Nat → Nat) (ents : Ents) (off : Ents) (u : ByteArray) (bs : List Nat) (se : List Nat) (k : Nat) (bt : Nat) (s : ByteArray) (y : ByteArray) (Q : AExit → Regs → AState → Prop) : Prop := (Option.isSome (entV (hideE β ents) bs se) = true) ∧ (Option.getD (entV (hideE β ents) bs se) AVal.any = AVal.tuple [AVal.agg [AVal.str s, AVal.str y], AVal.blk bt 2 0 0]) ∧ Q (AExit.normal) (mkR 97 [(3, AVal.ptr 3 9 0 0), (4, AVal.ptr 4 3 0 0), (9, AVal.blk bt 2 0 0), (77, AVal.ptr 6 1 0 0)]) ([AObj.rows false 2 [[AVal.map 1, AVal.map 2]], AObj.mpn true (hideE β ents) bs k, AObj.mp true off, AObj.rows true 9 [[AVal.int IntKind.i64 7, AVal.str w0, AVal.str w0, AVal.str u, AVal.str w0, AVal.str w0, AVal.str w0, AVal.int IntKind.i64 0, AVal.int IntKind.i64 0]], AObj.rows false 3 [[AVal.int IntKind.i64 0, AVal.int IntKind.i64 0, AVal.fsl true 0 [] (some 0)]], AObj.rows true 2 [[AVal.str w0, AVal.str w0]], AObj.miter (some 1) k se k])
theorem eA_wp (β : Nat → Nat) (ents : Ents) (off : Ents) (u : ByteArray) (bs : List Nat) (se : List Nat) (k : Nat) (bt : Nat) (s : ByteArray) (y : ByteArray) {Q : AExit → Regs → AState → Prop} (h : eA_T β ents off u bs se k bt s y Q) : ∃ e rg' σ', TripN Tryd.prog 7 (fstOf oBody) (mkR 97 [(3, ptr 3 9 0 0), (4, ptr 4 3 0 0), (77, ptr 6 1 0 0), (79, AVal.tt true)]) (A7 β ents off bs se k u) e rg' σ' ∧ Q e rg' σ' :=
  ⟨_, _, _, eA_1 β ents off u bs se k bt s y (h.2.1) (h.1), h.2.2⟩


theorem eB_1 (β : Nat → Nat) (ents : Ents) (off : Ents) (u : ByteArray) (bs : List Nat) (se : List Nat) (k : Nat) (b : Bool) (us : List ByteArray) (ps : List (List AVal))
    (h1 : (List.all (gms us) fun p => keyKind Tryd.prog 9 (Prod.fst p)) = true) :
    TripN Tryd.prog 10 (restOf oBody) (mkR 97 [(3, ptr 6 9 0 0), (4, ptr 7 3 0 0), (9, ptr 3 2 0 0), (77, ptr 9 1 0 0)]) (A10 β ents off bs se k u b us ps) (normal) (mkR 97 [(3, ptr 6 9 0 0), (4, ptr 7 3 0 0), (77, ptr 9 1 0 0)]) ((z0QG β ents bs k off b ps u us se)) :=
  evalT (st := St.mk (mkR 97 [(3, ptr 6 9 0 0), (4, ptr 7 3 0 0), (9, ptr 3 2 0 0), (77, ptr 9 1 0 0)]) (A10 β ents off bs se k u b us ps) ([]) []) (st' := St.mk (mkR 97 [(3, ptr 6 9 0 0), (4, ptr 7 3 0 0), (9, ptr 3 2 0 0), (77, ptr 9 1 0 0), (82, ptr 3 2 0 0), (83, ptr 3 2 0 0), (84, ptr 3 2 0 0), (85, AVal.map 4), (86, ptr 6 9 0 3), (87, str u)]) ((z0QG β ents bs k off b ps u us se)) ([]) (tr 2 ++ ((_) :: (tr 22 ++ [])))) followed (by kernel_rfl) (allP_of (trC 2 ⟨h1, (trC 22 trivial)⟩)) (keepM 97 [3, 4, 77]) ([0, 1, 2, 3, 4, 5, 6, 7, 8, 9]) (by kernel_rfl) (by kernel_rfl) (by kernel_rfl)

def eB_T (β : Nat → Nat) (ents : Ents) (off : Ents) (u : ByteArray) (bs : List Nat) (se : List Nat) (k : Nat) (b : Bool) (us : List ByteArray) (ps : List (List AVal)) (Q : AExit → Regs → AState → Prop) : Prop := ((List.all (gms us) fun p => keyKind Tryd.prog 9 (Prod.fst p)) = true) ∧ Q (AExit.normal) (mkR 97 [(3, AVal.ptr 6 9 0 0), (4, AVal.ptr 7 3 0 0), (77, AVal.ptr 9 1 0 0)]) ([AObj.rows false 2 [[AVal.map 1, AVal.map 2]], AObj.mpn true (hideE β ents) bs k, AObj.mp true off, AObj.rows false 2 [[AVal.map 4, AVal.slc b 5 2 0 (List.length ps) none]], AObj.mp true (adel (AVal.str u) (gms us)), AObj.rows true 2 ps, AObj.rows true 9 [[AVal.int IntKind.i64 7, AVal.str w0, AVal.str w0, AVal.str u, AVal.str w0, AVal.str w0, AVal.str w0, AVal.int IntKind.i64 0, AVal.int IntKind.i64 0]], AObj.rows false 3 [[AVal.int IntKind.i64 0, AVal.int IntKind.i64 0, AVal.fsl true 0 [] (some 0)]], AObj.rows true 2 [[AVal.str w0, AVal.str w0]], AObj.miter (some 1) k se k])
theorem eB_wp (β : Nat → Nat) (ents : Ents) (off : Ents) (u : ByteArray) (bs : List Nat) (se : List Nat) (k : Nat) (b : Bool) (us : List ByteArray) (ps : List (List AVal)) {Q : AExit → Regs → AState → Prop} (h : eB_T β ents off u bs se k b us ps Q) : ∃ e rg' σ', TripN Tryd.prog 10 (restOf oBody) (mkR 97 [(3, ptr 6 9 0 0), (4, ptr 7 3 0 0), (9, ptr 3 2 0 0), (77, ptr 9 1 0 0)]) (A10 β ents off bs se k u b us ps) e rg' σ' ∧ Q e rg' σ' :=
  ⟨_, _, _, eB_1 β ents off u bs se k b us ps (h.1), h.2⟩


end Go.MN
end

section
set_option linter.unusedVariables false
set_option linter.unusedSimpArgs false
set_option maxRecDepth 100000
namespace Go.MN
open Go Go.Abs Go.Proofs
abbrev em3 (L : Nat) : Nat → Nat := emb [0, 1, 2] L
theorem plug6 {S S' : AState} {L : Nat} (hS : S.length = L) (hS' : S'.length = L) (hL : 3 ≤ L) {x : Ch} (hge : ∀ j ∈ x.pl, 3 ≤ j ∧ j < L) (npq : x.p ≠ x.q) (npr : x.p ≠ x.r) (nqr : x.q ≠ x.r) {a0 a1 a2 p' q' r' b0 b1 b2 : AObj} {lo lo' : AState}
    (h0 : renO (emb [0, 1, 2, x.p, x.q, x.r] L) a0 = renO (em3 L) b0) (h1 : renO (emb [0, 1, 2, x.p, x.q, x.r] L) a1 = renO (em3 L) b1) (h2 : renO (emb [0, 1, 2, x.p, x.q, x.r] L) a2 = renO (em3 L) b2)
    (hp : S'[x.p]? = some (renO (emb [0, 1, 2, x.p, x.q, x.r] L) p')) (hq : S'[x.q]? = some (renO (emb [0, 1, 2, x.p, x.q, x.r] L) q')) (hr : S'[x.r]? = some (renO (emb [0, 1, 2, x.p, x.q, x.r] L) r'))
    (ho : ∀ j, j < L → 3 ≤ j → j ∉ x.pl → S'[j]? = S[j]?) (hlo : lo.map (renO (emb [0, 1, 2, x.p, x.q, x.r] L)) = lo'.map (renO (em3 L))) :
    plug S [0, 1, 2, x.p, x.q, x.r] (a0 :: a1 :: a2 :: p' :: q' :: r' :: lo) = plug S' [0, 1, 2] (b0 :: b1 :: b2 :: lo') := by
  have gp := hge x.p (by simp [Ch.pl]); have gq := hge x.q (by simp [Ch.pl]); have gr := hge x.r (by simp [Ch.pl])
  have hnd : Go.Abs.nodupB [0, 1, 2, x.p, x.q, x.r] = true := by
    simp [Go.Abs.nodupB]; omega
  have hlt : ∀ j ∈ [0, 1, 2, x.p, x.q, x.r], j < S.length := fun j hj => by simp at hj; omega
  have hlt3 : ∀ j ∈ [0, 1, 2], j < S'.length := fun j hj => by simp at hj; omega
  have hl6 : [0, 1, 2, x.p, x.q, x.r].length ≤ (a0 :: a1 :: a2 :: p' :: q' :: r' :: lo).length := by simp
  have hl3 : [0, 1, 2].length ≤ (b0 :: b1 :: b2 :: lo').length := by simp
  have i6 := fun (i j : Nat) (o : AObj) (h : [0, 1, 2, x.p, x.q, x.r][i]? = some j) (h' : (a0 :: a1 :: a2 :: p' :: q' :: r' :: lo)[i]? = some o) => plug_in hnd hlt hl6 h h'
  have i3 := fun (i j : Nat) (o : AObj) (h : [0, 1, 2][i]? = some j) (h' : (b0 :: b1 :: b2 :: lo')[i]? = some o) => plug_in rfl hlt3 hl3 h h'
  rw [hS] at i6; rw [hS'] at i3
  refine List.ext_getElem? fun j => ?_
  rcases Nat.lt_or_ge j L with hj | hj
  · by_cases e0 : j = 0
    · subst e0; rw [i6 0 0 a0 rfl rfl, i3 0 0 b0 rfl rfl, h0]
    by_cases e1 : j = 1
    · subst e1; rw [i6 1 1 a1 rfl rfl, i3 1 1 b1 rfl rfl, h1]
    by_cases e2 : j = 2
    · subst e2; rw [i6 2 2 a2 rfl rfl, i3 2 2 b2 rfl rfl, h2]
    rw [plug_out (S := S') rfl hlt3 hl3 (by omega) (by simp; omega)]
    by_cases e3 : j = x.p
    · subst e3; rw [i6 3 x.p p' rfl rfl, hp]
    by_cases e4 : j = x.q
    · subst e4; rw [i6 4 x.q q' rfl rfl, hq]
    by_cases e5 : j = x.r
    · subst e5; rw [i6 5 x.r r' rfl rfl, hr]
    rw [plug_out hnd hlt hl6 (by omega) (by simp; omega), ho j hj (by omega) (by simp [Ch.pl]; omega)]
  · obtain ⟨d, rfl⟩ : ∃ d, j = L + d := ⟨j - L, by omega⟩
    have n6 := plug_new hnd hlt hl6 d
    have n3 := plug_new rfl hlt3 hl3 d
    rw [hS] at n6; rw [hS'] at n3
    rw [n6, n3]
    show Option.map _ ([a0, a1, a2, p', q', r'] ++ lo)[6 + d]? = Option.map _ ([b0, b1, b2] ++ lo')[3 + d]?
    rw [List.getElem?_append_right (by simp), List.getElem?_append_right (by simp)]
    have := congrArg (·[d]?) hlo
    simpa using this
theorem plug_set1 {S : AState} (hS : 3 ≤ S.length) (b0 b1 b1' b2 : AObj) (lo : AState) : (plug S [0, 1, 2] (b0 :: b1 :: b2 :: lo)).set 1 (renO (em3 S.length) b1') = plug S [0, 1, 2] (b0 :: b1' :: b2 :: lo) := by
  have hlt3 : ∀ j ∈ [0, 1, 2], j < S.length := fun j hj => by simp at hj; omega
  have hl : ∀ b, [0, 1, 2].length ≤ (b0 :: b :: b2 :: lo).length := fun b => by simp
  have i3 := fun (b : AObj) (i j : Nat) (o : AObj) (h : [0, 1, 2][i]? = some j) (h' : (b0 :: b :: b2 :: lo)[i]? = some o) => plug_in rfl hlt3 (hl b) h h'
  refine List.ext_getElem? fun j => ?_
  rw [List.getElem?_set]
  split
  · rename_i e; subst e
    rw [if_pos (by rw [plug_len rfl hlt3 (hl b1)]; omega), i3 b1' 1 1 b1' rfl rfl]
  · rename_i hj
    rcases Nat.lt_or_ge j S.length with hjl | hjl
    · by_cases e0 : j = 0
      · subst e0; rw [i3 b1 0 0 b0 rfl rfl, i3 b1' 0 0 b0 rfl rfl]
      by_cases e2 : j = 2
      · subst e2; rw [i3 b1 2 2 b2 rfl rfl, i3 b1' 2 2 b2 rfl rfl]
      rw [plug_out rfl hlt3 (hl b1) hjl (by simp; omega), plug_out rfl hlt3 (hl b1') hjl (by simp; omega)]
    · obtain ⟨d, rfl⟩ : ∃ d, j = S.length + d := ⟨j - S.length, by omega⟩
      rw [plug_new rfl hlt3 (hl b1) d, plug_new rfl hlt3 (hl b1') d]
      show Option.map _ ([b0, b1, b2] ++ lo)[3 + d]? = Option.map _ ([b0, b1', b2] ++ lo)[3 + d]?
      rw [List.getElem?_append_right (by simp), List.getElem?_append_right (by simp)]
      rfl
theorem plug_setN {S : AState} (hS : 3 ≤ S.length) (b0 b1 b2 l0 l1 l2 it it' : AObj) : (plug S [0, 1, 2] [b0, b1, b2, l0, l1, l2, it]).set (S.length + 3) (renO (em3 S.length) it') = plug S [0, 1, 2] [b0, b1, b2, l0, l1, l2, it'] := by
  have hlt3 : ∀ j ∈ [0, 1, 2], j < S.length := fun j hj => by simp at hj; omega
  have hl : ∀ it, [0, 1, 2].length ≤ [b0, b1, b2, l0, l1, l2, it].length := fun b => by simp
  have i3 := fun (it : AObj) (i j : Nat) (o : AObj) (h : [0, 1, 2][i]? = some j) (h' : [b0, b1, b2, l0, l1, l2, it][i]? = some o) => plug_in rfl hlt3 (hl it) h h'
  refine List.ext_getElem? fun j => ?_
  rw [List.getElem?_set]
  split
  · rename_i e; subst e
    rw [if_pos (by rw [plug_len rfl hlt3 (hl it)]; simp), plug_new rfl hlt3 (hl it') 3]
    rfl
  · rename_i hj
    rcases Nat.lt_or_ge j S.length with hjl | hjl
    · by_cases e0 : j = 0
      · subst e0; rw [i3 it 0 0 b0 rfl rfl, i3 it' 0 0 b0 rfl rfl]
      by_cases e1 : j = 1
      · subst e1; rw [i3 it 1 1 b1 rfl rfl, i3 it' 1 1 b1 rfl rfl]
      by_cases e2 : j = 2
      · subst e2; rw [i3 it 2 2 b2 rfl rfl, i3 it' 2 2 b2 rfl rfl]
      rw [plug_out rfl hlt3 (hl it) hjl (by simp; omega), plug_out rfl hlt3 (hl it') hjl (by simp; omega)]
    · obtain ⟨d, rfl⟩ : ∃ d, j = S.length + d := ⟨j - S.length, by omega⟩
      rw [plug_new rfl hlt3 (hl it) d, plug_new rfl hlt3 (hl it') d]
      match d with
      | 0 => rfl
      | 1 => rfl
      | 2 => rfl
      | 3 => exact absurd rfl hj
      | d + 4 => rw [List.getElem?_eq_none (by simp; omega), List.getElem?_eq_none (by simp; omega)]

abbrev Zs := List (Ch × Nat)
def gS (zs : Zs) (u : ByteArray) (se : List Nat) (j : Nat) : Option AObj := (zs.find? fun z => z.1.q == j && se.contains z.2).map fun z => .mp true (gms (z.1.us.erase u))
def Tn (T : AState) (zs : Zs) (u : ByteArray) (se : List Nat) : AState := T.mapIdx fun j o => (gS zs u se j).getD o
theorem Tn_len (T : AState) (zs : Zs) (u : ByteArray) (se : List Nat) : (Tn T zs u se).length = T.length := by simp [Tn]
theorem Tn_get (T : AState) (zs : Zs) (u : ByteArray) (se : List Nat) (j : Nat) : (Tn T zs u se)[j]? = (T[j]?).map fun o => (gS zs u se j).getD o := by
  unfold Tn; rw [List.getElem?_mapIdx]
theorem gS_none {zs : Zs} {u : ByteArray} {se : List Nat} {j : Nat} (h : ∀ z ∈ zs, z.1.q ≠ j) : gS zs u se j = none := by
  unfold gS
  rw [List.find?_eq_none.2 fun z hz => by simp [h z hz]]; rfl
theorem gS_nil (zs : Zs) (u : ByteArray) (j : Nat) : gS zs u [] j = none := by
  unfold gS
  rw [List.find?_eq_none.2 fun z hz => by simp]; rfl
theorem Tn_nil (T : AState) (zs : Zs) (u : ByteArray) : Tn T zs u [] = T := by
  refine List.ext_getElem? fun j => ?_
  rw [Tn_get, gS_nil]
  cases T[j]? <;> rfl
theorem find_one {zs : Zs} {p : Ch × Nat → Bool} {z : Ch × Nat} (hz : z ∈ zs) (hp : p z = true) (h1 : ∀ y ∈ zs, p y = true → y = z) : zs.find? p = some z := by
  cases h : zs.find? p with
  | none => exact absurd hp (by simpa using List.find?_eq_none.1 h z hz)
  | some y => rw [h1 y (List.mem_of_find?_eq_some h) (by simpa using List.find?_some h)]
theorem find_congr {p q : Ch × Nat → Bool} : ∀ {zs : Zs}, (∀ z ∈ zs, p z = q z) → zs.find? p = zs.find? q
  | [], _ => rfl
  | z :: zs, h => by rw [List.find?_cons, List.find?_cons, h z (by simp), find_congr fun y hy => h y (by simp [hy])]
theorem gS_ext {zs : Zs} {u : ByteArray} {se se' : List Nat} {j : Nat} (h : ∀ z ∈ zs, z.1.q = j → se.contains z.2 = se'.contains z.2) : gS zs u se j = gS zs u se' j := by
  unfold gS
  refine congrArg (Option.map _) (find_congr fun z hz => ?_)
  by_cases e : z.1.q = j
  · rw [h z hz e]
  · rw [show (z.1.q == j) = false from by simpa using e]; rfl
end Go.MN
end

section
set_option linter.unusedVariables false
set_option linter.unusedSimpArgs false
set_option maxRecDepth 100000
namespace Go.MN
open Go Go.Abs Go.Proofs
abbrev chs (zs : Zs) : List Ch := zs.map (·.1)
abbrev bths (zs : Zs) : List Nat := zs.map (·.2)
def SLo (T : AState) (zs : Zs) (u : ByteArray) (off : Ents) (k : Nat) (se : List Nat) (it : AObj) : AState :=
  (plug (Tn T zs u se) [0, 1, 2] (A7o (fun _ => 0) [] off (bths zs) k u it)).set 1 (.mpn false (entsOf (chs zs)) (bths zs) k)
theorem nodup_at {α β : Type} {f : α → β} : ∀ {l : List α}, (l.map f).Nodup → ∀ {a b}, a ∈ l → b ∈ l → f a = f b → a = b
  | [], _, a, b, h, _, _ => by cases h
  | x :: l, hn, a, b, ha, hb, e => by
    rw [List.map_cons, List.nodup_cons] at hn
    rcases List.mem_cons.1 ha with rfl | ha'
    · rcases List.mem_cons.1 hb with rfl | hb'
      · rfl
      · exact absurd (List.mem_map.2 ⟨b, hb', e.symm⟩) hn.1
    · rcases List.mem_cons.1 hb with rfl | hb'
      · exact absurd (List.mem_map.2 ⟨a, ha', e⟩) hn.1
      · exact nodup_at hn.2 ha' hb' e
section
variable {T : AState} {zs : Zs} {offs : List ByteArray} (hM : MT T (chs zs) offs)
include hM
theorem zlt : 3 ≤ T.length ∧ ∀ z ∈ zs, (∀ j ∈ z.1.pl, 3 ≤ j ∧ j < T.length) ∧ z.1.p ≠ z.1.q ∧ z.1.p ≠ z.1.r ∧ z.1.q ≠ z.1.r ∧ ∀ y ∈ zs, y ≠ z → ∀ j ∈ y.1.pl, j ∉ z.1.pl := by
  refine ⟨hM.lt.1, fun z hz => ?_⟩
  obtain ⟨l1, l2, rfl⟩ := List.append_of_mem hz
  have hM2 : MT T (l1.map (·.1) ++ [z.1] ++ l2.map (·.1)) offs := by simpa [chs] using hM
  obtain ⟨hge, npq, npr, nqr, hoth⟩ := hM2.one
  obtain ⟨q1, q2, q3⟩ := hM2.lt.2 z.1 (by simp)
  refine ⟨fun j hj => ⟨hge j hj, by simp [Ch.pl] at hj; omega⟩, npq, npr, nqr, fun y hy hne j hj => ?_⟩
  refine (hoth y.1 ?_ j hj).2
  simp only [List.mem_append, List.mem_cons] at hy
  rcases hy with hy | rfl | hy
  · exact List.mem_append.2 (.inl (List.mem_map.2 ⟨y, hy, rfl⟩))
  · exact absurd rfl hne
  · exact List.mem_append.2 (.inr (List.mem_map.2 ⟨y, hy, rfl⟩))
theorem SLo_len (u : ByteArray) (off : Ents) (k : Nat) (se : List Nat) (it : AObj) : (SLo T zs u off k se it).length = T.length + 4 := by
  have h := (zlt hM).1
  unfold SLo
  rw [List.length_set, plug_len rfl (fun j hj => by rw [Tn_len]; simp at hj; omega) (by simp), Tn_len]
  rfl
theorem SLo_it (u : ByteArray) (off : Ents) (k : Nat) (se : List Nat) (it : AObj) : (SLo T zs u off k se it)[T.length + 3]? = some (renO (em3 T.length) it) := by
  have h := (zlt hM).1
  unfold SLo
  rw [List.getElem?_set_ne (by omega)]
  have := plug_new (S := Tn T zs u se) (es := [0, 1, 2]) (σ' := A7o (fun _ => 0) [] off (bths zs) k u it) rfl (fun j hj => by rw [Tn_len]; simp at hj; omega) (by simp) 3
  rw [Tn_len] at this
  rw [this]; rfl
theorem SLo_map (u : ByteArray) (off : Ents) (k : Nat) (se : List Nat) (it : AObj) : (SLo T zs u off k se it)[1]? = some (.mpn false (entsOf (chs zs)) (bths zs) k) := by
  have hl := SLo_len hM u off k se it
  unfold SLo at hl ⊢
  rw [List.length_set] at hl
  rw [List.getElem?_set, if_pos rfl, if_pos (by omega)]
theorem SLo_turn (u : ByteArray) (off : Ents) (k : Nat) (se : List Nat) (it it' : AObj) : (SLo T zs u off k se it).set (T.length + 3) (renO (em3 T.length) it') = SLo T zs u off k se it' := by
  have h := (zlt hM).1
  have := plug_setN (S := Tn T zs u se) (by rw [Tn_len]; exact h) (.rows false 2 [[.map 1, .map 2]]) (.mpn true (hideE (fun _ => 0) []) (bths zs) k) (.mp true off) (opR u) (.rows false 3 [[.int .i64 0, .int .i64 0, .fsl true 0 [] (some 0)]]) (.rows true 2 [[.str w0, .str w0]]) it it'
  rw [Tn_len] at this
  unfold SLo
  rw [List.set_comm _ _ (by omega), this]
theorem SLo_hid (u : ByteArray) (off : Ents) (k : Nat) (se : List Nat) (it : AObj) (β : Nat → Nat) : (SLo T zs u off k se it).set 1 (.mpn true (hideE β (entsOf (chs zs))) (bths zs) k) = plug (Tn T zs u se) [0, 1, 2] (A7o β (entsOf (chs zs)) off (bths zs) k u it) := by
  have h := (zlt hM).1
  have := plug_set1 (S := Tn T zs u se) (by rw [Tn_len]; exact h) (.rows false 2 [[.map 1, .map 2]]) (.mpn true (hideE (fun _ => 0) []) (bths zs) k) (.mpn true (hideE β (entsOf (chs zs))) (bths zs) k) (.mp true off) [opR u, .rows false 3 [[.int .i64 0, .int .i64 0, .fsl true 0 [] (some 0)]], .rows true 2 [[.str w0, .str w0]], it]
  unfold SLo
  rw [List.set_set]
  exact this
theorem hideOk_ents {N : Nat} (hN : N = T.length) : HideOk N ((chs zs).map (·.p)) (entsOf (chs zs)) := by
  refine ⟨fun e he id es i j h => ?_, fun e he => ?_⟩
  · obtain ⟨x, hx, rfl⟩ := List.mem_map.1 he
    cases h
    exact ⟨by rw [hN]; exact (hM.lt.2 x hx).1, List.mem_map.2 ⟨x, hx, rfl⟩⟩
  · obtain ⟨x, hx, rfl⟩ := List.mem_map.1 he
    exact ⟨rfl, rfl⟩
theorem ids_lt {N : Nat} (hN : N = T.length) : ∀ id ∈ (chs zs).map (·.p), id < N := fun id hid => by
  obtain ⟨x, hx, rfl⟩ := List.mem_map.1 hid
  rw [hN]; exact (hM.lt.2 x hx).1
theorem SLo_agree (u : ByteArray) (off : Ents) (k : Nat) (se si : List Nat) {rg : Regs} (h77 : rg.getD 77 .any = .ptr (T.length + 3) 1 0 0) (F : FS) (w : World) (ρ : RMap) (a : Act) (r : Rel ρ F (SLo T zs u off k se (.miter (some 1) k si k)) w) (ha : ARel F w ρ rg a) : ∀ id ∈ (chs zs).map (·.p), ∃ b, ρ id = some b := fun id hid => by
  obtain ⟨x, hx, rfl⟩ := List.mem_map.1 hid
  have hl : 77 < rg.length := by
    rcases Nat.lt_or_ge 77 rg.length with h | h
    · exact h
    · rw [List.getD_eq_getElem?_getD, List.getElem?_eq_none h] at h77; cases h77
  have hg : rg[77]? = some (.ptr (T.length + 3) 1 0 0) := by
    rw [List.getD_eq_getElem?_getD, List.getElem?_eq_getElem hl] at h77
    rw [List.getElem?_eq_getElem hl]; exact congrArg some h77
  obtain ⟨b, hb, _⟩ := (ha.val 77 _ _ hg (Array.getElem?_eq_getElem (by rw [← ha.size]; exact hl))).ptr_inv
  obtain ⟨m, hm, _⟩ := r.obj _ _ _ (SLo_it hM u off k se (.miter (some 1) k si k)) hb
  have hm : ρ 1 = some m := hm
  obtain ⟨es, _, _, _, h4⟩ := r.obj _ _ _ (SLo_map hM u off k se (.miter (some 1) k si k)) hm
  obtain ⟨i, hi⟩ := List.getElem?_of_mem hx
  obtain ⟨e, _, _, hv⟩ := h4 i (ky x.s x.c) (.ptr x.p 2 0 0) (by unfold entsOf; rw [List.getElem?_map, hi]; rfl)
  obtain ⟨b2, hb2, _⟩ := hv.ptr_inv
  exact ⟨b2, hb2⟩
end
end Go.MN
end

section
set_option linter.unusedVariables false
set_option linter.unusedSimpArgs false
set_option linter.unusedSectionVars false
set_option maxRecDepth 100000
namespace Go.MN
open Go Go.Abs Go.Proofs
theorem entAt_z {β : Nat → Nat} : ∀ {zs : Zs}, (bths zs).Nodup → ∀ {z : Ch × Nat}, z ∈ zs → entAt z.2 (hideE β (entsOf (chs zs))) (bths zs) = some (.tuple [ky z.1.s z.1.c, .blk (β z.1.p) 2 0 0])
  | [], _, z, h => by cases h
  | y :: zs, hn, z, h => by
    show (if y.2 == z.2 then some (AVal.tuple [ky y.1.s y.1.c, .blk (β y.1.p) 2 0 0]) else entAt z.2 (hideE β (entsOf (chs zs))) (bths zs)) = _
    by_cases e : y.2 = z.2
    · have : y = z := nodup_at hn (by simp) h e
      subst this; simp
    · rw [if_neg (by simpa using e)]
      have hn' := hn
      unfold bths at hn'
      rw [List.map_cons, List.nodup_cons] at hn'
      rcases List.mem_cons.1 h with rfl | h
      · exact absurd rfl e
      · exact entAt_z hn'.2 h
theorem entV_z {β : Nat → Nat} {zs : Zs} (hn : (bths zs).Nodup) {z : Ch × Nat} (hz : z ∈ zs) (se : List Nat) : entV (hideE β (entsOf (chs zs))) (bths zs) (se ++ [z.2]) = some (.tuple [ky z.1.s z.1.c, .blk (β z.1.p) 2 0 0]) := by
  unfold entV
  simp only [List.getLast?_append, List.getLast?_singleton, Option.some_or, Option.bind_some]
  exact entAt_z hn hz
section
variable {T : AState} {zs : Zs} {offs : List ByteArray} (hM : MT T (chs zs) offs) (hn : (bths zs).Nodup)
include hM hn
theorem gS_new {u : ByteArray} {se : List Nat} {z : Ch × Nat} (hz : z ∈ zs) : gS zs u (se ++ [z.2]) z.1.q = some (.mp true (gms (z.1.us.erase u))) := by
  unfold gS
  rw [find_one hz (by simp) fun y hy hp => ?_]
  · rfl
  · simp at hp
    by_cases e : y = z
    · exact e
    · have := ((zlt hM).2 z hz).2.2.2.2 y hy e y.1.q (by simp [Ch.pl])
      simp [Ch.pl] at this
      exact absurd hp.1 this.2.1
theorem gS_old {u : ByteArray} {se : List Nat} {z : Ch × Nat} (hz : z ∈ zs) {j : Nat} (hj : j ≠ z.1.q) : gS zs u (se ++ [z.2]) j = gS zs u se j := by
  refine gS_ext fun y hy hq => ?_
  by_cases e : y.2 = z.2
  · have := nodup_at hn hy hz e
    subst this
    exact absurd hq.symm hj
  · simp [e]
theorem gS_q {u : ByteArray} {se : List Nat} {z : Ch × Nat} (hz : z ∈ zs) (hs : z.2 ∉ se) : gS zs u se z.1.q = none := by
  unfold gS
  rw [List.find?_eq_none.2 fun y hy => ?_]
  · rfl
  · simp
    intro hq
    by_cases e : y = z
    · subst e; exact hs
    · have := ((zlt hM).2 z hz).2.2.2.2 y hy e y.1.q (by simp [Ch.pl])
      simp [Ch.pl] at this
      exact absurd hq this.2.1
theorem gS_pr {u : ByteArray} {se : List Nat} {z : Ch × Nat} (hz : z ∈ zs) {j : Nat} (hj : j = z.1.p ∨ j = z.1.r) : gS zs u se j = none := by
  refine gS_none fun y hy hq => ?_
  obtain ⟨_, npq, npr, nqr, ho⟩ := (zlt hM).2 z hz
  by_cases e : y = z
  · subst e; rcases hj with rfl | rfl
    · exact npq hq.symm
    · exact nqr hq
  · have := ho y hy e y.1.q (by simp [Ch.pl])
    simp [Ch.pl] at this
    rcases hj with rfl | rfl
    · exact this.1 hq
    · exact this.2.2 hq
theorem SL6 (u : ByteArray) (off : Ents) (k : Nat) (se si : List Nat) (β : Nat → Nat) {z : Ch × Nat} (hz : z ∈ zs) (hs : z.2 ∉ se) :
    plug (Tn T zs u se) [0, 1, 2, z.1.p, z.1.q, z.1.r] (A10 β (entsOf (chs zs)) off (bths zs) si k u z.1.b z.1.us z.1.ps) = plug (Tn T zs u se) [0, 1, 2] (A7 β (entsOf (chs zs)) off (bths zs) si k u) := by
  obtain ⟨hge, npq, npr, nqr, ho⟩ := (zlt hM).2 z hz
  have hx : z.1 ∈ chs zs := List.mem_map.2 ⟨z, hz, rfl⟩
  refine plug6 (Tn_len ..) (Tn_len ..) (zlt hM).1 hge npq npr nqr rfl rfl rfl ?_ ?_ ?_ (fun j _ _ _ => rfl) rfl
  · rw [Tn_get, hM.hp _ hx, Option.map_some, gS_pr hM hn hz (.inl rfl)]; rfl
  · rw [Tn_get, hM.hq _ hx, Option.map_some, gS_q hM hn hz hs]; rfl
  · rw [Tn_get, hM.hr _ hx, Option.map_some, gS_pr hM hn hz (.inr rfl)]; rfl
theorem SL6' (u : ByteArray) (off : Ents) (k : Nat) (se si : List Nat) (β : Nat → Nat) {z : Ch × Nat} (hz : z ∈ zs) :
    plug (Tn T zs u se) [0, 1, 2, z.1.p, z.1.q, z.1.r] (A10 β (entsOf (chs zs)) off (bths zs) si k u z.1.b (z.1.us.erase u) z.1.ps) = plug (Tn T zs u (se ++ [z.2])) [0, 1, 2] (A7 β (entsOf (chs zs)) off (bths zs) si k u) := by
  obtain ⟨hge, npq, npr, nqr, ho⟩ := (zlt hM).2 z hz
  have hx : z.1 ∈ chs zs := List.mem_map.2 ⟨z, hz, rfl⟩
  refine plug6 (Tn_len ..) (Tn_len ..) (zlt hM).1 hge npq npr nqr rfl rfl rfl ?_ ?_ ?_ (fun j _ _ hj => ?_) rfl
  · rw [Tn_get, hM.hp _ hx, Option.map_some, gS_pr hM hn hz (.inl rfl)]; rfl
  · rw [Tn_get, hM.hq _ hx, Option.map_some, gS_new hM hn hz]; rfl
  · rw [Tn_get, hM.hr _ hx, Option.map_some, gS_pr hM hn hz (.inr rfl)]; rfl
  · rw [Tn_get, Tn_get, gS_old hM hn hz (by simp [Ch.pl] at hj; omega)]
abbrev RA79 : Regs := mkR 97 [(3, .ptr 3 9 0 0), (4, .ptr 4 3 0 0), (77, .ptr 6 1 0 0), (79, .tt true)]
theorem offs_round {N : Nat} (hN : N = T.length) (u : ByteArray) (off : Ents) (k : Nat) (se : List Nat) {z : Ch × Nat} (hz : z ∈ zs) (hs : z.2 ∉ se) :
    TripN Tryd.prog N (restOf (loopNo Tryd.f13 0)) (renL (em3 T.length) RA79) (SLo T zs u off k se (.miter (some 1) k (se ++ [z.2]) k)) .normal (renL (em3 T.length) RA) (SLo T zs u off k (se ++ [z.2]) (.miter (some 1) k (se ++ [z.2]) k)) := by
  obtain ⟨hge, npq, npr, nqr, ho⟩ := (zlt hM).2 z hz
  have h3 := (zlt hM).1
  have gp := hge z.1.p (by simp [Ch.pl]); have gq := hge z.1.q (by simp [Ch.pl]); have gr := hge z.1.r (by simp [Ch.pl])
  have hI := ids_lt hM hN
  have hid : z.1.p ∈ (chs zs).map (·.p) := List.mem_map.2 ⟨z.1, List.mem_map.2 ⟨z, hz, rfl⟩, rfl⟩
  have hlt3 : ∀ j ∈ [0, 1, 2], j < (Tn T zs u se).length := fun j hj => by rw [Tn_len]; simp at hj; omega
  have hlt6 : ∀ j ∈ [0, 1, 2, z.1.p, z.1.q, z.1.r], j < (Tn T zs u se).length := fun j hj => by rw [Tn_len]; simp at hj; omega
  have hnd6 : Go.Abs.nodupB [0, 1, 2, z.1.p, z.1.q, z.1.r] = true := by
    simp [Go.Abs.nodupB]; omega
  refine TripB.toN (I := (chs zs).map (·.p)) (fun β => ?_) (SLo_agree hM u off k se (se ++ [z.2]) rfl)
  show TripB Tryd.prog β _ N (.seq (.cond (.tmp 79) .skip (.exit 1)) (.block 2 (.seq (fstOf oBody) (restOf oBody)))) _ _ _ _ _
  refine TripB.seqN hI (rg1 := renL (em3 T.length) RA79) (σ1 := SLo T zs u off k se (.miter (some 1) k (se ++ [z.2]) k)) ?_ ?_
  · refine TripB.cond (b := true) (Imp.refl _) ?_
    exact fun hn F w ρ a Q _ r ha hQ => wp_skip (hQ ρ F w a (TrN.refl _ _ _ _ _ r hn) r ha)
  · refine TripB.block (e := .normal) ?_
    have hA : TripN Tryd.prog 7 (fstOf oBody) RA79 (A7 β (entsOf (chs zs)) off (bths zs) (se ++ [z.2]) k u) .normal (mkR 97 [(3, .ptr 3 9 0 0), (4, .ptr 4 3 0 0), (9, .blk (β z.1.p) 2 0 0), (77, .ptr 6 1 0 0)]) (A7 β (entsOf (chs zs)) off (bths zs) (se ++ [z.2]) k u) := by
      refine TripN.wp (eA_wp β (entsOf (chs zs)) off u (bths zs) (se ++ [z.2]) k (β z.1.p) z.1.s z.1.c ?_)
      unfold eA_T
      rw [entV_z hn hz]
      exact ⟨rfl, rfl, rfl, rfl, rfl⟩
    have hA2 := (TripN.useX (N := N) (T := Tn T zs u se) (es := [0, 1, 2]) (σ := A7 β (entsOf (chs zs)) off (bths zs) (se ++ [z.2]) k u) (σ' := A7 β (entsOf (chs zs)) off (bths zs) (se ++ [z.2]) k u) hA rfl hlt3 (by simp) rfl (Nat.le_refl _)).toB (β := β) (I := (chs zs).map (·.p))
    rw [Tn_len] at hA2
    have hA3 : TripB Tryd.prog β ((chs zs).map (·.p)) N (fstOf oBody) (renL (em3 T.length) RA79) (SLo T zs u off k se (.miter (some 1) k (se ++ [z.2]) k)) .normal (renL (em3 T.length) (mkR 97 [(3, .ptr 3 9 0 0), (4, .ptr 4 3 0 0), (9, .blk (β z.1.p) 2 0 0), (77, .ptr 6 1 0 0)])) (SLo T zs u off k se (.miter (some 1) k (se ++ [z.2]) k)) :=
      TripB.hide hI 1 (SLo_map hM u off k se _) (SLo_map hM u off k se _) (hideOk_ents hM hN) (hideOk_ents hM hN) (by rw [SLo_hid hM]; exact hA2)
    have hA4 := hA3.outB hI (RImpB.set (t := 9) (id := z.1.p) (es := 2) (i := 0) (j := 0) hid rfl)
    refine hA4.seqN hI ?_
    have hB : TripN Tryd.prog 10 (restOf oBody) (mkR 97 [(3, .ptr 6 9 0 0), (4, .ptr 7 3 0 0), (9, .ptr 3 2 0 0), (77, .ptr 9 1 0 0)]) (A10 β (entsOf (chs zs)) off (bths zs) (se ++ [z.2]) k u z.1.b z.1.us z.1.ps) .normal (mkR 97 [(3, .ptr 6 9 0 0), (4, .ptr 7 3 0 0), (77, .ptr 9 1 0 0)]) (A10 β (entsOf (chs zs)) off (bths zs) (se ++ [z.2]) k u z.1.b (z.1.us.erase u) z.1.ps) := by
      refine TripN.wp (eB_wp β (entsOf (chs zs)) off u (bths zs) (se ++ [z.2]) k z.1.b z.1.us z.1.ps ?_)
      unfold eB_T
      rw [adel_gm]
      exact ⟨kk9s _, rfl, rfl, rfl⟩
    have hB2 := (TripN.useX (N := N) (T := Tn T zs u se) (es := [0, 1, 2, z.1.p, z.1.q, z.1.r]) (σ := A10 β (entsOf (chs zs)) off (bths zs) (se ++ [z.2]) k u z.1.b z.1.us z.1.ps) (σ' := A10 β (entsOf (chs zs)) off (bths zs) (se ++ [z.2]) k u z.1.b (z.1.us.erase u) z.1.ps) hB hnd6 hlt6 (by simp) rfl (Nat.le_refl _)).toB (β := β) (I := (chs zs).map (·.p))
    rw [Tn_len, SL6 hM hn u off k se (se ++ [z.2]) β hz hs, SL6' hM hn u off k se (se ++ [z.2]) β hz] at hB2
    exact TripB.hide hI 1 (SLo_map hM u off k se _) (SLo_map hM u off k (se ++ [z.2]) _) (hideOk_ents hM hN) (hideOk_ents hM hN) (by rw [SLo_hid hM, SLo_hid hM]; exact hB2)
end
end Go.MN
end

section
set_option linter.unusedVariables false
set_option linter.unusedSimpArgs false
set_option linter.unusedSectionVars false
set_option maxRecDepth 100000
namespace Go.MN
open Go Go.Abs Go.Proofs
theorem snoc_nodup {l : List Nat} {b : Nat} (h : l.Nodup) (hb : b ∉ l) : (l ++ [b]).Nodup := by
  rw [List.nodup_append]
  exact ⟨h, by simp, fun a ha c hc => by simp at hc; subst hc; exact fun e => hb (e ▸ ha)⟩
section
variable {T : AState} {zs : Zs} {offs : List ByteArray} (hM : MT T (chs zs) offs) (hn : (bths zs).Nodup)
include hM hn
theorem Tn_all {u : ByteArray} {se : List Nat} (h : ∀ b ∈ bths zs, b ∈ se) : Tn T zs u se = Tn T zs u (bths zs) := by
  refine List.ext_getElem? fun j => ?_
  rw [Tn_get, Tn_get, gS_ext (se := se) (se' := bths zs) fun z hz _ => ?_]
  have hb : z.2 ∈ bths zs := List.mem_map.2 ⟨z, hz, rfl⟩
  rw [List.contains_iff_mem.2 hb, List.contains_iff_mem.2 (h _ hb)]
theorem offs_loopX {N : Nat} (hN : N = T.length) (u : ByteArray) (off : Ents) (k : Nat) :
    TripN Tryd.prog N (.loop (loopNo Tryd.f13 0)) (renL (em3 T.length) RA) (SLo T zs u off k [] (.miter (some 1) k [] k)) (.exit 1) (renL (em3 T.length) RE) (SLo T zs u off k (bths zs) .dead) := by
  let I : List Nat → Regs → AState → Prop := fun seen rg σ => seen.Nodup ∧ (∀ b ∈ seen, b ∈ bths zs) ∧ rg = renL (em3 T.length) RA ∧ σ = SLo T zs u off k seen (.miter (some 1) k seen k)
  have hL := mapLoop (P := Tryd.prog) (N := N) (c := loopNo Tryd.f13 0) (rest := restOf (loopNo Tryd.f13 0)) (Post := fun e rg σ => e = .exit 1 ∧ rg = renL (em3 T.length) RA ∧ ∃ seen, σ = SLo T zs u off k (bths zs) (.miter (some 1) k seen k)) rfl (bths zs) I ?_ _ _ [] ⟨List.nodup_nil, by simp, rfl, rfl⟩
  · refine RunD.trip ((LoopD.runD hL).out ?_)
    rintro e rg σ ⟨rfl, rfl, seen, rfl⟩
    refine ⟨renL (em3 T.length) RE, SLo T zs u off k (bths zs) .dead, ?_, rfl, rfl, rfl⟩
    have hk := Weak.kill (N := N) (rg := renL (em3 T.length) RA) (σ := SLo T zs u off k (bths zs) (.miter (some 1) k seen k)) (id := T.length + 3) (by rw [obj_of (SLo_it hM u off k (bths zs) _)]; rfl)
    have ht := SLo_turn hM u off k (bths zs) (.miter (some 1) k seen k) .dead
    rw [show renO (em3 T.length) AObj.dead = .dead from rfl] at ht
    rw [ht] at hk
    refine Weak.trans hk (Weak.regs ?_)
    exact keepR_imp (keepM 97 [3, 4]) _
  · rintro seen rg σ ⟨h1, h2, rfl, rfl⟩
    refine ⟨T.length + 3, 1, 1, k, false, entsOf (chs zs), bths zs, rfl, obj_of (SLo_it hM u off k seen _), obj_of (SLo_map hM u off k seen _), (by show 78 < 97; decide), fun b hb => hb, fun b hb1 hb2 => ?_, fun hall => ?_⟩
    · obtain ⟨z, hz, rfl⟩ := List.mem_map.1 hb1
      have ht := SLo_turn hM u off k seen (.miter (some 1) k seen k) (.miter (some 1) k (seen ++ [z.2]) k)
      rw [show renO (em3 T.length) (AObj.miter (some 1) k (seen ++ [z.2]) k) = .miter (some 1) k (seen ++ [z.2]) k from rfl] at ht
      rw [ht]
      refine (offs_round hM hn hN u off k seen hz hb2).runD (.inl ⟨rfl, snoc_nodup h1 hb2, fun x hx => ?_, rfl, rfl⟩)
      rcases List.mem_append.1 hx with hx | hx
      · exact h2 x hx
      · simp at hx; subst hx; exact hb1
    · have hx : TripN Tryd.prog N (restOf (loopNo Tryd.f13 0)) (((renL (em3 T.length) RA).set 78 .any).set 79 (.tt false)) (SLo T zs u off k seen (.miter (some 1) k seen k)) (.exit 1) (renL (em3 T.length) RA) (SLo T zs u off k seen (.miter (some 1) k seen k)) := by
        have h0 : TripN Tryd.prog N (restOf (loopNo Tryd.f13 0)) (((renL (em3 T.length) RA).set 78 .any).set 79 (.tt false)) (SLo T zs u off k seen (.miter (some 1) k seen k)) (.exit 1) (((renL (em3 T.length) RA).set 78 .any).set 79 (.tt false)) (SLo T zs u off k seen (.miter (some 1) k seen k)) := by
          show TripN Tryd.prog N (.seq (.cond (.tmp 79) .skip (.exit 1)) (.block 2 (.seq (fstOf oBody) (restOf oBody)))) _ _ _ _ _
          refine TripN.seqE (TripN.cond (b := false) (Imp.refl _) ?_) (by simp)
          exact Trip.toN fun F w ρ a Q r ha hQ => wp_exit (hQ ρ F w a (Tr.refl _ _ _ _) r ha)
        refine h0.out ?_
        exact keepR_imp (keepM 97 [3, 4, 77]) _
      refine hx.runD ⟨by simp, rfl, rfl, seen, ?_⟩
      unfold SLo
      rw [Tn_all hM hn hall]
end

def gA (cs : List Ch) (u : ByteArray) (j : Nat) : Option AObj := (cs.find? fun x => x.q == j).map fun x => .mp true (gms (x.us.erase u))
def TA (T : AState) (cs : List Ch) (u : ByteArray) : AState := T.mapIdx fun j o => (gA cs u j).getD o
def TO (T : AState) (cs : List Ch) (u : ByteArray) (off : Ents) : AState := (plug (TA T cs u) [0, 1, 2] (A7o (fun _ => 0) [] off [] 0 u .dead)).set 1 (.mp false (entsOf cs))
theorem TA_len (T : AState) (cs : List Ch) (u : ByteArray) : (TA T cs u).length = T.length := by simp [TA]
theorem TA_get (T : AState) (cs : List Ch) (u : ByteArray) (j : Nat) : (TA T cs u)[j]? = (T[j]?).map fun o => (gA cs u j).getD o := by
  unfold TA; rw [List.getElem?_mapIdx]
theorem Tn_TA (T : AState) (zs : Zs) (u : ByteArray) : Tn T zs u (bths zs) = TA T (chs zs) u := by
  refine List.ext_getElem? fun j => ?_
  rw [Tn_get, TA_get]
  congr 1
  funext o
  have : gS zs u (bths zs) j = gA (chs zs) u j := by
    unfold gS gA chs
    rw [List.find?_map, Option.map_map]
    refine congrArg (Option.map _) (find_congr fun z hz => ?_)
    rw [List.contains_iff_mem.2 (List.mem_map.2 ⟨z, hz, rfl⟩ : z.2 ∈ bths zs), Bool.and_true]; rfl
  rw [this]
theorem SLo_TO {T : AState} {zs : Zs} {offs : List ByteArray} (hM : MT T (chs zs) offs) (u : ByteArray) (off : Ents) (k : Nat) : (SLo T zs u off k (bths zs) .dead).set 1 (.mp false (entsOf (chs zs))) = TO T (chs zs) u off := by
  have h := (zlt hM).1
  unfold SLo TO
  rw [Tn_TA, List.set_set]
  have h1 := plug_set1 (S := TA T (chs zs) u) (by rw [TA_len]; exact h) (.rows false 2 [[.map 1, .map 2]]) (.mpn true (hideE (fun _ => 0) []) [] 0) (.mpn true (hideE (fun _ => 0) []) (bths zs) k) (.mp true off) [opR u, .rows false 3 [[.int .i64 0, .int .i64 0, .fsl true 0 [] (some 0)]], .rows true 2 [[.str w0, .str w0]], .dead]
  show (plug (TA T (chs zs) u) [0, 1, 2] _).set 1 _ = _
  rw [← h1, List.set_set]
abbrev Ch.offU (u : ByteArray) (x : Ch) : Ch := { x with us := x.us.erase u }
theorem TO_get {T : AState} {cs : List Ch} {offs : List ByteArray} (hM : MT T cs offs) (u : ByteArray) (off : Ents) :
    (TO T cs u off)[0]? = some (.rows false 2 [[.map 1, .map 2]]) ∧ (TO T cs u off)[1]? = some (.mp false (entsOf cs)) ∧ (TO T cs u off)[2]? = some (.mp true off) ∧
    (∀ j, j < T.length → 3 ≤ j → (TO T cs u off)[j]? = (T[j]?).map fun o => (gA cs u j).getD o) ∧ (∀ d, (TO T cs u off)[T.length + d]? = ([opR u, .rows false 3 [[.int .i64 0, .int .i64 0, .fsl true 0 [] (some 0)]], .rows true 2 [[.str w0, .str w0]], .dead][d]?).map (renO (em3 T.length))) := by
  have h3 := hM.lt.1
  have hlt3 : ∀ j ∈ [0, 1, 2], j < (TA T cs u).length := fun j hj => by rw [TA_len]; simp at hj; omega
  have hl : [0, 1, 2].length ≤ (A7o (fun _ => 0) [] off [] 0 u .dead).length := by simp
  refine ⟨?_, ?_, ?_, fun j h1 h2 => ?_, fun d => ?_⟩ <;> unfold TO
  · rw [List.getElem?_set_ne (by omega)]; exact plug_in rfl hlt3 hl (i := 0) rfl rfl
  · rw [List.getElem?_set, if_pos rfl, if_pos (by rw [plug_len rfl hlt3 hl, TA_len]; omega)]
  · rw [List.getElem?_set_ne (by omega)]; exact plug_in rfl hlt3 hl (i := 2) rfl rfl
  · rw [List.getElem?_set_ne (by omega), plug_out rfl hlt3 hl (by rw [TA_len]; exact h1) (by simp; omega), TA_get]
  · have := plug_new rfl hlt3 hl d
    rw [TA_len] at this
    rw [List.getElem?_set_ne (by omega), this]
    show Option.map _ ([_, _, _] ++ [opR u, .rows false 3 [[.int .i64 0, .int .i64 0, .fsl true 0 [] (some 0)]], .rows true 2 [[.str w0, .str w0]], .dead])[3 + d]? = _
    rw [List.getElem?_append_right (by simp)]
    simp
theorem MT.off {T : AState} {cs : List Ch} {offs : List ByteArray} (hM : MT T cs offs) (u : ByteArray) (offs' : List ByteArray) : MT (TO T cs u (gms offs')) (cs.map (Ch.offU u)) offs' := by
  obtain ⟨g0, g1, g2, g3, g4⟩ := TO_get hM u (gms offs')
  have hch : chs (cs.zip (List.range cs.length)) = cs := List.map_fst_zip (by simp)
  have hM2 : MT T (chs (cs.zip (List.range cs.length))) offs := by rw [hch]; exact hM
  obtain ⟨_, hz⟩ := zlt hM2
  have hpl : (cs.map (Ch.offU u)).flatMap Ch.pl = cs.flatMap Ch.pl := by rw [List.flatMap_map]
  have hgA : ∀ x ∈ cs, gA cs u x.p = none ∧ gA cs u x.r = none ∧ gA cs u x.q = some (.mp true (gms (x.us.erase u))) ∧ (3 ≤ x.p ∧ x.p < T.length) ∧ (3 ≤ x.q ∧ x.q < T.length) ∧ 3 ≤ x.r ∧ x.r < T.length := fun x hx => by
    obtain ⟨l1, l2, rfl⟩ := List.append_of_mem hx
    have hM3 : MT T (l1 ++ [x] ++ l2) offs := by simpa using hM
    obtain ⟨hge, npq, npr, nqr, hoth⟩ := hM3.one
    obtain ⟨q1, q2, q3⟩ := hM3.lt.2 x (by simp)
    have hne : ∀ y ∈ l1 ++ x :: l2, y.q ≠ x.p ∧ y.q ≠ x.r ∧ (y.q = x.q → y = x ∨ False) := fun y hy => by
      have : y = x ∨ y ∈ l1 ++ l2 := by
        simp only [List.mem_append, List.mem_cons] at hy ⊢
        rcases hy with h | h | h
        · exact .inr (.inl h)
        · exact .inl h
        · exact .inr (.inr h)
      rcases this with rfl | hy2
      · exact ⟨fun e => npq e.symm, nqr, fun _ => .inl rfl⟩
      · have := (hoth y hy2 y.q (by simp [Ch.pl])).2
        simp [Ch.pl] at this
        exact ⟨this.1, this.2.2, fun e => absurd e this.2.1⟩
    refine ⟨?_, ?_, ?_, ⟨hge _ (by simp [Ch.pl]), q1⟩, ⟨hge _ (by simp [Ch.pl]), q2⟩, hge _ (by simp [Ch.pl]), q3⟩
    · unfold gA; rw [List.find?_eq_none.2 fun y hy => by simpa using (hne y hy).1]; rfl
    · unfold gA; rw [List.find?_eq_none.2 fun y hy => by simpa using (hne y hy).2.1]; rfl
    · unfold gA
      cases hf : (l1 ++ x :: l2).find? fun y => y.q == x.q with
      | none => exact absurd (List.find?_eq_none.1 hf x (by simp)) (by simp)
      | some y =>
        have h1 := (hne y (List.mem_of_find?_eq_some hf)).2.2 (by simpa using List.find?_some hf)
        rcases h1 with rfl | h
        · rfl
        · exact h.elim
  have hof : ∀ y ∈ cs.map (Ch.offU u), ∃ x ∈ cs, y = x.offU u := fun y hy => by
    obtain ⟨x, hx, rfl⟩ := List.mem_map.1 hy; exact ⟨x, hx, rfl⟩
  refine ⟨g0, ?_, g2, fun y hy => ?_, fun y hy => ?_, fun y hy => ?_, by rw [hpl]; exact hM.nd, ?_⟩
  · rw [g1]; unfold entsOf; rw [List.map_map]; rfl
  · obtain ⟨x, hx, rfl⟩ := hof y hy
    obtain ⟨a1, a2, a3, a4, a5, a6⟩ := hgA x hx
    rw [g3 _ a4.2 a4.1, hM.hp x hx, Option.map_some, a1]; rfl
  · obtain ⟨x, hx, rfl⟩ := hof y hy
    obtain ⟨a1, a2, a3, a4, a5, a6⟩ := hgA x hx
    rw [g3 _ a5.2 a5.1, hM.hq x hx, Option.map_some, a3]; rfl
  · obtain ⟨x, hx, rfl⟩ := hof y hy
    obtain ⟨a1, a2, a3, a4, a5, a6⟩ := hgA x hx
    rw [g3 _ a6.2 a6.1, hM.hr x hx, Option.map_some, a2]; rfl
  · unfold noGh
    rw [List.all_eq_true]
    intro o ho
    obtain ⟨j, hj⟩ := List.getElem?_of_mem ho
    have key : o.isGh = false := by
      rcases Nat.lt_or_ge j T.length with hl | hl
      · by_cases e0 : j = 0
        · subst e0; rw [g0] at hj; cases hj; rfl
        by_cases e1 : j = 1
        · subst e1; rw [g1] at hj; cases hj; rfl
        by_cases e2 : j = 2
        · subst e2; rw [g2] at hj; cases hj; rfl
        rw [g3 j hl (by omega), Option.map_eq_some_iff] at hj
        obtain ⟨o0, h0, rfl⟩ := hj
        cases hg : gA cs u j with
        | none => exact noGh_get hM.ng h0
        | some o1 =>
          unfold gA at hg
          rw [Option.map_eq_some_iff] at hg
          obtain ⟨x, _, rfl⟩ := hg
          rfl
      · obtain ⟨d, rfl⟩ : ∃ d, j = T.length + d := ⟨j - T.length, by omega⟩
        rw [g4 d, Option.map_eq_some_iff] at hj
        obtain ⟨o0, h0, rfl⟩ := hj
        rw [renO_isGh]
        match d, h0 with
        | 0, h0 => cases h0; rfl
        | 1, h0 => cases h0; rfl
        | 2, h0 => cases h0; rfl
        | 3, h0 => cases h0; rfl
        | d + 4, h0 => cases h0
    rw [key]; rfl
end Go.MN
end

section
set_option linter.unusedVariables false
set_option linter.unusedSimpArgs false
set_option linter.unusedSectionVars false
set_option maxRecDepth 100000
namespace Go.MN
open Go Go.Abs Go.Proofs
theorem plug_A3 {T : AState} {cs : List Ch} {offs : List ByteArray} (hM : MT T cs offs) (β : Nat → Nat) (bs : List Nat) (k : Nat) : plug T [0, 1, 2] (A3 β (entsOf cs) (gms offs) bs k) = (T.set 1 (.mpn false (entsOf cs) bs k)).set 1 (.mpn true (hideE β (entsOf cs)) bs k) := by
  have h3 := hM.lt.1
  have hlt3 : ∀ j ∈ [0, 1, 2], j < T.length := fun j hj => by simp at hj; omega
  have hl : [0, 1, 2].length ≤ (A3 β (entsOf cs) (gms offs) bs k).length := by simp
  refine List.ext_getElem? fun j => ?_
  rw [List.set_set, List.getElem?_set]
  split
  · rename_i e; subst e
    rw [if_pos (by omega), plug_in rfl hlt3 hl (i := 1) rfl rfl]; rfl
  · rename_i hj
    rcases Nat.lt_or_ge j T.length with hjl | hjl
    · by_cases e0 : j = 0
      · subst e0; rw [plug_in rfl hlt3 hl (i := 0) rfl rfl, hM.h0]; rfl
      by_cases e2 : j = 2
      · subst e2; rw [plug_in rfl hlt3 hl (i := 2) rfl rfl, hM.h2]; rfl
      rw [plug_out rfl hlt3 hl hjl (by simp; omega)]
    · rw [List.getElem?_eq_none hjl, List.getElem?_eq_none (by rw [plug_len rfl hlt3 hl]; simpa using hjl)]
theorem off_fok {T : AState} {cs : List Ch} {offs : List ByteArray} (hM : MT T cs offs) (u : ByteArray) (hu : u ∉ offs) (hw : noCh w0 w0 cs) (ck : FOk Tryd.prog 21 [opw 7 w0 w0 u w0 w0 w0 0 0] [] (.int .i64 0) []) :
    FOk Tryd.prog 13 [.ptr 0 2 0 0, opw 7 w0 w0 u w0 w0 w0 0 0] [.gh T] (rep 0 0 nilps) [.gh (TO T cs u (gms (offs ++ [u])))] := by
  have h3 := hM.lt.1
  refine FOkN.gh1 (T := T) ?_ rfl rfl hM.ng rfl (hM.off u (offs ++ [u])).ng ⟨_, (hM.off u (offs ++ [u])).h0, rfl⟩ (by omega)
  refine FOkN.born (id := 1) (p := false) (ents := entsOf cs) (obj_of hM.h1) fun bs k hb hlb => ?_
  have hlb : bs.length = cs.length := by rw [hlb]; simp [entsOf]
  obtain ⟨zs, hz1, hz2⟩ : ∃ zs : Zs, chs zs = cs ∧ bths zs = bs := ⟨cs.zip bs, List.map_fst_zip (by omega), List.map_snd_zip (by omega)⟩
  subst hz1; subst hz2
  have hn := hb.nodup
  rw [← SLo_TO hM u _ k]
  refine FOkN.unborn (id := 1) ?_ (obj_of (SLo_map hM u _ k _ _))
  have hlen : (T.set 1 (.mpn false (entsOf (chs zs)) (bths zs) k)).length = T.length := by simp
  have hT1 : (T.set 1 (.mpn false (entsOf (chs zs)) (bths zs) k))[1]? = some (.mpn false (entsOf (chs zs)) (bths zs) k) := by
    rw [List.getElem?_set, if_pos rfl, if_pos (by omega)]
  refine FOkB.okN (I := (chs zs).map (·.p)) (fun β => ?_) ?_
  · refine FOkB.hide 1 (ids_lt hM hlen) hT1 (SLo_map hM u _ k _ _) (hideOk_ents hM hlen) (hideOk_ents hM hlen) ?_ rfl
    rw [← plug_A3 hM, SLo_hid hM]
    have hlt3 : ∀ j ∈ [0, 1, 2], j < T.length := fun j hj => by simp at hj; omega
    have hN : T.length = (plug T [0, 1, 2] (A3 β (entsOf (chs zs)) (gms offs) (bths zs) k)).length := by rw [plug_len rfl hlt3 (by simp)]; rfl
    have haf := afind_none β w0 w0 (chs zs) hw
    have hloop := TripB.show (ids_lt hM rfl) 1 (SLo_map hM u _ k _ _) (SLo_map hM u _ k _ _) (hideOk_ents hM rfl) (hideOk_ents hM rfl) ((offs_loopX hM hn rfl u (gms (offs ++ [u])) k).toB (β := β) (I := (chs zs).map (·.p)))
    rw [SLo_hid hM, SLo_hid hM, Tn_nil] at hloop
    rw [← aput_gm u offs hu] at hloop ⊢
    exact dOX_1 (gms offs) (entsOf (chs zs)) u (bths zs) k T.length (fun i => if i = 0 then T else Tn T zs u (bths zs)) β (List.map (fun x : Ch => x.p) (chs zs)) T.length (ids_lt hM rfl) rfl hlt3 (fun i => by show (if i = 0 then T else Tn T zs u (bths zs)).length = _; split <;> simp [Tn_len]) hN
      hloop (kk9s _) (by rw [getD_gm, decide_eq_false hu, if_neg (by simp)]; exact as4 false) (by rw [getD_gm]; exact ok4 _) (by rw [haf]; rfl) (by rw [haf]; rfl) (keys_all (hide_keys β _)) ck (FOk.wp (gv3n_wp β _ _ _ _ ⟨rfl, rfl⟩))
  · intro F w ρ args r hp id hid
    obtain ⟨x, hx, rfl⟩ := List.mem_map.1 hid
    obtain ⟨c, hc⟩ : ∃ c, args.toList[0]? = some c := by
      have hl := hp.1
      cases hq : args.toList with
      | nil => rw [hq] at hl; simp at hl
      | cons c l => exact ⟨c, rfl⟩
    obtain ⟨b, hb0, _⟩ := (hp.2 0 _ c rfl hc).ptr_inv
    have h0 : (T.set 1 (.mpn false (entsOf (chs zs)) (bths zs) k))[0]? = some (.rows false 2 [[.map 1, .map 2]]) := by
      rw [List.getElem?_set_ne (by omega)]; exact hM.h0
    obtain ⟨_, _, _, _, _, _, _, hcell⟩ := r.obj _ _ _ h0 hb0
    obtain ⟨cv, _, hv⟩ := hcell 0 0 _ _ rfl rfl
    obtain ⟨m, hm, _⟩ := hv.map_inv
    obtain ⟨es, _, _, _, h4⟩ := r.obj _ _ _ hT1 hm
    obtain ⟨i, hi⟩ := List.getElem?_of_mem hx
    obtain ⟨e, _, _, hv⟩ := h4 i (ky x.s x.c) (.ptr x.p 2 0 0) (by unfold entsOf; rw [List.getElem?_map, hi]; rfl)
    obtain ⟨b2, hb2, _⟩ := hv.ptr_inv
    exact ⟨b2, hb2⟩
theorem doO {T : AState} {m : List Mo} {offs : List ByteArray} (h : MX T m offs) (u : ByteArray) (hu : u ∉ offs) (hw : noMo w0 w0 m) (ck : FOk Tryd.prog 21 [opw 7 w0 w0 u w0 w0 w0 0 0] [] (.int .i64 0) []) : Done (opw 7 w0 w0 u w0 w0 w0 0 0) T (rep 0 0 nilps) (m.map fun k => { k with us := k.us.erase u }) (offs ++ [u]) := by
  obtain ⟨cs, rfl, hM, hb⟩ := h.ex
  refine ⟨_, ⟨cs.map (Ch.offU u), ?_, hM.off u (offs ++ [u]), fun y hy => ?_⟩, off_fok hM u hu (noMo_ch hw) ck⟩
  · rw [List.map_map, List.map_map]; rfl
  · obtain ⟨x, hx, rfl⟩ := List.mem_map.1 hy
    exact hb x hx
theorem doF {T : AState} {m : List Mo} {offs : List ByteArray} (h : MX T m offs) (u : ByteArray) (hu : u ∈ offs) (hw : noMo w0 w0 m) (ck : FOk Tryd.prog 21 [opw 7 w0 w0 u w0 w0 w0 0 0] [] (.int .i64 0) []) : Done (opw 7 w0 w0 u w0 w0 w0 0 0) T (rep 92 0 nilps) m offs := by
  obtain ⟨cs, rfl, hM, hb⟩ := h.ex
  obtain ⟨T', h1, h2⟩ := hM.same3 (f := 13) (rest := [opw 7 w0 w0 u w0 w0 w0 0 0]) (v := rep 92 0 nilps) rfl rfl fun β => by
    refine FOk.wp (dF3_wp (hideE β (entsOf cs)) (gms offs) u ?_)
    unfold dF3_T
    rw [List.append_nil, List.append_nil, afind_none β w0 w0 cs (noMo_ch hw), getD_gm, decide_eq_true hu]
    exact ⟨given3 .., ck, keys_all (hide_keys β cs), rfl, kk9s _, ok4 _, by rw [if_neg (by simp)]; exact as4 true, no_ok 92, rfl, rfl⟩
  exact ⟨T', ⟨cs, rfl, h1, hb⟩, h2⟩
end Go.MN
end

section
set_option linter.unusedVariables false
set_option maxRecDepth 100000
namespace Go.MN
open Go Go.Abs Go.Proofs
abbrev gc (rows : List (List AVal)) (i : Int) (j : Nat) : AVal := List.getD (List.getD rows (Int.toNat i) []) j AVal.any
abbrev og (rows : List (List AVal)) (i : Int) : List AVal := [AVal.int IntKind.i64 (AVal.toInt (gc rows i 0)), AVal.str (AVal.toStr (gc rows i 1)), AVal.str (AVal.toStr (gc rows i 2)), AVal.str (AVal.toStr (gc rows i 3)), AVal.str (AVal.toStr (gc rows i 4)), AVal.str (AVal.toStr (gc rows i 5)), AVal.str (AVal.toStr (gc rows i 6)), AVal.int IntKind.i64 (AVal.toInt (gc rows i 7)), AVal.int IntKind.i64 (AVal.toInt (gc rows i 8))]
abbrev oc (rows : List (List AVal)) (i : Int) : List AVal := [gc rows i 0, gc rows i 1, gc rows i 2, gc rows i 3, gc rows i 4, gc rows i 5, gc rows i 6, gc rows i 7, gc rows i 8]
abbrev kks : List Kind := [Kind.int IntKind.i64, Kind.str, Kind.str, Kind.str, Kind.str, Kind.str, Kind.str, Kind.int IntKind.i64, Kind.int IntKind.i64]
open Go.Abs.AVal (str agg ptr slc fsl tuple nilp)
end Go.MN
end

section
set_option linter.unusedVariables false
set_option linter.unusedSimpArgs false
set_option linter.unusedSectionVars false
set_option maxRecDepth 100000
namespace Go.MN
open Go Go.Abs Go.Proofs
theorem size0 {x : ByteArray} (h : x.size = 0) : x = w0 := by
  obtain ⟨d⟩ := x
  have : d = #[] := Array.eq_empty_of_size_eq_zero h
  subst this; rfl
theorem lab_ne {s : ByteArray} (h : labB s = true) : s ≠ w0 := fun e => by
  subst e
  unfold labB at h
  simp at h
  exact absurd h.1 (by decide)
theorem mo_find (s c : ByteArray) : ∀ m : List Mo, noMo s c m ∨ ∃ m1 k m2, m = m1 ++ [k] ++ m2 ∧ k.s = s ∧ k.c = c ∧ noMo s c m1
  | [] => .inl fun k hk => by cases hk
  | k :: m => by
    by_cases h : k.s = s ∧ k.c = c
    · exact .inr ⟨[], k, m, rfl, h.1, h.2, fun k hk => by cases hk⟩
    · rcases mo_find s c m with h2 | ⟨m1, k', m2, rfl, h3, h4, h5⟩
      · exact .inl fun x hx => by
          rcases List.mem_cons.1 hx with rfl | hx
          · exact h
          · exact h2 x hx
      · exact .inr ⟨k :: m1, k', m2, rfl, h3, h4, fun x hx => by
          rcases List.mem_cons.1 hx with rfl | hx
          · exact h
          · exact h5 x hx⟩
def psOf : List Mo → List (List AVal)
  | [] => []
  | k :: m => if k.s = tw ∧ k.c = tc then k.ps else psOf m
structure Inv (m : List Mo) : Prop where
  ok : ∀ k ∈ m, MoOk k
  nw : noMo w0 w0 m
theorem Inv.put {m1 m2 : List Mo} {k k' : Mo} (h : Inv (m1 ++ [k] ++ m2)) (hs : k'.s = k.s) (hc : k'.c = k.c) (hk : MoOk k') : Inv (m1 ++ [k'] ++ m2) := by
  refine ⟨fun x hx => ?_, fun x hx => ?_⟩
  · simp only [List.mem_append, List.mem_singleton] at hx
    rcases hx with (hx | rfl) | hx
    · exact h.ok x (by simp [hx])
    · exact hk
    · exact h.ok x (by simp [hx])
  · simp only [List.mem_append, List.mem_singleton] at hx
    rcases hx with (hx | rfl) | hx
    · exact h.nw x (by simp [hx])
    · rw [hs, hc]; exact h.nw k (by simp)
    · exact h.nw x (by simp [hx])
def Goes (T : AState) (m : List Mo) (k : Int) (s c u x y z : ByteArray) (f n : Int) : Prop :=
  ∃ e a nl qs T' m' offs', MX T' m' offs' ∧ Inv m' ∧ FOk Tryd.prog 13 [.ptr 0 2 0 0, opw k s c u x y z f n] [.gh T] (rep e a (.fsl nl 2 qs none)) [.gh T'] ∧
    ((psOf m' = psOf m ∧ ¬ (k = 3 ∧ s = tw ∧ c = tc ∧ e = 0)) ∨ (k = 3 ∧ s = tw ∧ c = tc ∧ e = 0 ∧ a = (psOf m).length ∧ psOf m' = psOf m ++ [[.str u, .str x]] ∧ (psOf m).length < 1024 ∧ u.size ≤ 16 ∧ x.size ≤ 1024))
theorem goes {T : AState} {m m' : List Mo} {offs' : List ByteArray} {k : Int} {s c u x y z : ByteArray} {f n : Int} {e a : Int} {nl : Bool} {qs : List (List AVal)} (h : Done (opw k s c u x y z f n) T (rep e a (.fsl nl 2 qs none)) m' offs') (hi : Inv m') (hp : psOf m' = psOf m) (hk : ¬ (k = 3 ∧ s = tw ∧ c = tc ∧ e = 0)) : Goes T m k s c u x y z f n := by
  obtain ⟨T', h1, h2⟩ := h
  exact ⟨e, a, nl, qs, T', m', offs', h1, hi, h2, .inl ⟨hp, hk⟩⟩
end Go.MN
end

section
set_option linter.unusedVariables false
set_option linter.unusedSimpArgs false
set_option linter.unusedSectionVars false
set_option maxRecDepth 100000
namespace Go.MN
open Go Go.Abs Go.Proofs
structure Opx where
  k : Int
  s : ByteArray
  c : ByteArray
  u : ByteArray
  x : ByteArray
  y : ByteArray
  z : ByteArray
  f : Int
  n : Int
abbrev opr (o : Opx) : List AVal := [.int .i64 o.k, .str o.s, .str o.c, .str o.u, .str o.x, .str o.y, .str o.z, .int .i64 o.f, .int .i64 o.n]
abbrev oprs (os : List Opx) : List (List AVal) := os.map opr
theorem oprs_get (os : List Opx) {i : Nat} (h : i < os.length) : (oprs os).getD i [] = opr os[i] := by
  rw [List.getD_eq_getElem?_getD, List.getElem?_map, List.getElem?_eq_getElem h]; rfl
abbrev Pst := List (ByteArray × ByteArray)
abbrev pr (p : ByteArray × ByteArray) : List AVal := [.str p.1, .str p.2]
theorem txeq (a b : ByteArray) : (a.toList == b.toList) = decide (a = b) := by
  rw [toList_lB, toList_lB]
  by_cases h : a = b
  · subst h; simp
  · rw [decide_eq_false h]
    have : lB a ≠ lB b := fun e => h (by
      have e : a.data.toList = b.data.toList := e
      obtain ⟨⟨a⟩⟩ := a; obtain ⟨⟨b⟩⟩ := b
      simp at e; subst e; rfl)
    simpa using this
structure LI (i : Nat) (T : AState) (m : List Mo) (offs : List ByteArray) (b : Bool) (p : Pst) : Prop where
  mx : MX T m offs
  inv : Inv m
  ps : psOf m = p.map pr
  len : p.length ≤ i
  sz : ∀ q ∈ p, q.1.size ≤ 16 ∧ q.2.size ≤ 1024
end Go.MN
end

section
set_option linter.unusedVariables false
set_option linter.unusedSimpArgs false
set_option linter.unusedSectionVars false
set_option maxRecDepth 100000
namespace Go.MN
open Go Go.Abs Go.Proofs
abbrev T00 : AState := [.rows false 2 [[.map 1, .map 2]], .mp false [], .mp true []]
theorem new_gh : FOk Tryd.prog 12 [] [] (.ptr 0 2 0 0) [.gh T00] := FOk.mkgh (FOk.wp (new__wp ⟨rfl, rfl⟩)) rfl ⟨_, rfl, rfl⟩
theorem mx00 : MX T00 [] [] := ⟨[], rfl, ⟨rfl, rfl, rfl, (fun x hx => by cases hx), (fun x hx => by cases hx), (fun x hx => by cases hx), (by decide), rfl⟩, (fun x hx => by cases hx)⟩
theorem ops_rows : ∀ (rows : List (List AVal)), (∀ row ∈ rows, okKs [.int .i64, .str, .str, .str, .str, .str, .str, .int .i64, .int .i64] row) → ∃ os : List Opx, rows = oprs os ∧ ∀ o ∈ os, o.x.size ≤ Go.reachBytes
  | [], _ => ⟨[], rfl, fun o ho => by cases ho⟩
  | row :: rows, h => by
    obtain ⟨os, rfl, hz⟩ := ops_rows rows fun r hr => h r (by simp [hr])
    have h1 := h row (by simp)
    simp only [okKs, okK] at h1
    obtain ⟨v, us, rfl, ⟨k, rfl, _⟩, v, us, rfl, ⟨s, rfl, _⟩, v, us, rfl, ⟨c, rfl, _⟩, v, us, rfl, ⟨u, rfl, _⟩, v, us, rfl, ⟨x, rfl, hx⟩, v, us, rfl, ⟨y, rfl, _⟩, v, us, rfl, ⟨z, rfl, _⟩, v, us, rfl, ⟨f, rfl, _⟩, v, us, rfl, ⟨n, rfl, _⟩, rfl⟩ := h1
    exact ⟨⟨k, s, c, u, x, y, z, f, n⟩ :: os, rfl, fun o ho => by
      rcases List.mem_cons.1 ho with rfl | ho
      · exact hx
      · exact hz o ho⟩
end Go.MN
end

section
set_option linter.unusedVariables false
set_option linter.unusedSimpArgs false
set_option linter.unusedSectionVars false
set_option maxRecDepth 100000
namespace Go.MN
open Go Go.Abs Go.Proofs
theorem afind_yes (β : Nat → Nat) (y z : ByteArray) : ∀ (cs : List Ch), ¬ noCh y z cs → ∃ p, afind (ky y z) (hideE β (entsOf cs)) = some (.blk p 2 0 0)
  | [], h => absurd (fun x hx => by cases hx) h
  | x :: cs, h => by
    show ∃ p, (if keq (ky y z) (ky x.s x.c) = true then some (AVal.blk (β x.p) 2 0 0) else afind (ky y z) (hideE β (entsOf cs))) = _
    rw [keq_ky]
    by_cases e : y = x.s ∧ z = x.c
    · exact ⟨β x.p, by rw [if_pos]; simp [e.1, e.2]⟩
    · rw [if_neg (by simpa using e)]
      refine afind_yes β y z cs fun hn => h fun k hk => ?_
      rcases List.mem_cons.1 hk with rfl | hk
      · exact fun e2 => e ⟨e2.1.symm, e2.2.symm⟩
      · exact hn k hk
theorem afind_appS {k : AVal} {v : AVal} : ∀ (l l' : Ents), afind k l = some v → afind k (l ++ l') = some v
  | [], l', h => by cases h
  | (k', v') :: l, l', h => by
    simp only [afind, List.cons_append] at h ⊢
    split
    · rename_i hk; rw [if_pos hk] at h; exact h
    · rename_i hk; rw [if_neg hk] at h; exact afind_appS l l' h
theorem afind_one {s c y z : ByteArray} {v : AVal} (h : ¬ (y = s ∧ z = c)) : afind (ky y z) [(ky s c, v)] = none := by
  show (if keq (ky y z) (ky s c) = true then some v else none) = none
  rw [keq_ky, if_neg (by simpa using h)]
theorem doVt {T : AState} {m1 m2 : List Mo} {k : Mo} {offs : List ByteArray} (h : MX T (m1 ++ [k] ++ m2) offs) (y z : ByteArray) (hn : noMo k.s k.c m1) (hy : ¬ noMo y z (m1 ++ [k] ++ m2)) (ck : FOk Tryd.prog 21 [opw 5 k.s k.c w0 w0 y z 0 0] [] (.int .i64 0) []) : Done (opw 5 k.s k.c w0 w0 y z 0 0) T (rep 90 0 nilps) (m1 ++ [k] ++ m2) offs := by
  obtain ⟨cs1, x, cs2, rfl, rfl, rfl, hM, hb⟩ := h.split
  obtain ⟨T', h1, h2⟩ := hM.step6 (f := 13) (rest := [opw 5 x.s x.c w0 w0 y z 0 0]) (v := rep 90 0 nilps) rfl rfl x cs1 cs2 (fun y hy => hy) offs [] 5 (.rows true 2 x.ps) rfl rfl (.inl ⟨rfl, rfl, rfl, rfl⟩) hM.nd fun β => by
    have hk : keysOk (hideE β (entsOf cs1) ++ hideE β (entsOf cs2)) := by rw [← hide_app, show entsOf cs1 ++ entsOf cs2 = entsOf (cs1 ++ cs2) by simp [entsOf]]; exact hide_keys β _
    have hn' := afind_none β _ _ cs1 (noMo_ch hn)
    refine doS _ _ 5 x.s x.c w0 w0 y z 0 0 (gms offs) (gms x.us) x.b x.ps 90 0 true [] ck hk hn' (by decide) (by decide) (by decide) ?_
    by_cases e : y = x.s ∧ z = x.c
    · obtain ⟨rfl, rfl⟩ := e
      refine FOk.wp (wVs_wp _ _ x.s x.c x.s x.c (gms offs) (gms x.us) x.b x.ps ?_)
      unfold wVs_T
      rw [afind_mid x.s x.c _ _ _ hn']
      exact ⟨keys_all (keys_mid hk), rfl, rfl, rfl⟩
    · have hf : ∃ p, afind (ky y z) (hideE β (entsOf cs1) ++ [(ky x.s x.c, AVal.ptr 1 2 0 0)] ++ hideE β (entsOf cs2)) = some (.blk p 2 0 0) := by
        by_cases h1 : noCh y z cs1
        · obtain ⟨p, hp⟩ := afind_yes β y z cs2 fun h2 => hy fun k hk => by
            simp only [List.mem_append, List.mem_singleton, List.mem_map] at hk
            rcases hk with (⟨a, ha, rfl⟩ | rfl) | ⟨a, ha, rfl⟩
            · exact h1 a ha
            · exact fun e2 => e ⟨e2.1.symm, e2.2.symm⟩
            · exact h2 a ha
          exact ⟨p, by rw [List.append_assoc, afind_app _ _ _ (afind_none β y z cs1 h1), afind_app _ _ _ (afind_one e), hp]⟩
        · obtain ⟨p, hp⟩ := afind_yes β y z cs1 h1
          exact ⟨p, by rw [List.append_assoc]; exact afind_appS _ _ hp⟩
      obtain ⟨p, hp⟩ := hf
      refine FOk.wp (wVo_wp _ _ x.s x.c y z (gms offs) (gms x.us) x.b x.ps p ?_)
      unfold wVo_T
      rw [hp]
      exact ⟨keys_all (keys_mid hk), rfl, rfl, rfl⟩
  exact ⟨T', ⟨_, by simp, h1, hb⟩, h2⟩
theorem doV {T : AState} {m1 m2 : List Mo} {k : Mo} {offs : List ByteArray} (h : MX T (m1 ++ [k] ++ m2) offs) (y z : ByteArray) (hn : noMo k.s k.c m1) (hy : noMo y z (m1 ++ [k] ++ m2)) (ck : FOk Tryd.prog 21 [opw 5 k.s k.c w0 w0 y z 0 0] [] (.int .i64 0) []) : Done (opw 5 k.s k.c w0 w0 y z 0 0) T (rep 0 0 nilps) (m1 ++ m2 ++ [⟨y, z, k.us, k.ps⟩]) offs := by
  obtain ⟨cs1, x, cs2, rfl, rfl, rfl, hM, hb⟩ := h.split
  have hnd : (List.range 3 ++ ((cs1 ++ cs2) ++ [{ x with s := y, c := z }] ++ []).flatMap Ch.pl).Nodup := by
    refine (List.Perm.nodup_iff ?_).1 hM.nd
    refine List.Perm.append_left _ ?_
    simp only [List.flatMap_append, List.flatMap_singleton, List.append_nil, List.flatMap_nil]
    rw [List.append_assoc, List.append_assoc]
    exact List.Perm.append_left _ List.perm_append_comm
  obtain ⟨T', h1, h2⟩ := hM.step6 (f := 13) (rest := [opw 5 x.s x.c w0 w0 y z 0 0]) (v := rep 0 0 nilps) rfl rfl { x with s := y, c := z } (cs1 ++ cs2) [] (fun y hy => by simpa using hy) offs [] 5 (.rows true 2 x.ps) rfl rfl (.inl ⟨rfl, rfl, rfl, rfl⟩) hnd fun β => by
    have hk : keysOk (hideE β (entsOf cs1) ++ hideE β (entsOf cs2)) := by rw [← hide_app, show entsOf cs1 ++ entsOf cs2 = entsOf (cs1 ++ cs2) by simp [entsOf]]; exact hide_keys β _
    have hn' := afind_none β _ _ cs1 (noMo_ch hn)
    have h1 := afind_none β y z cs1 fun a ha => hy a.mo (by simp only [List.mem_append, List.mem_map]; exact .inl (.inl ⟨a, ha, rfl⟩))
    have h2 := afind_none β y z cs2 fun a ha => hy a.mo (by simp only [List.mem_append, List.mem_map]; exact .inr ⟨a, ha, rfl⟩)
    have h0 : ¬ (y = x.s ∧ z = x.c) := fun e => hy x.mo (by simp) ⟨e.1.symm, e.2.symm⟩
    have ha : hideE β (entsOf (cs1 ++ cs2)) = hideE β (entsOf cs1) ++ hideE β (entsOf cs2) := by rw [show entsOf (cs1 ++ cs2) = entsOf cs1 ++ entsOf cs2 by simp [entsOf], hide_app]
    rw [ha]
    show FOk Tryd.prog 13 _ _ _ [_, .mq (hideE β (entsOf cs1) ++ hideE β (entsOf cs2)) [(ky y z, .ptr 3 2 0 0)] [], _, _, _, _]
    refine FOk.wp (dV_wp (hideE β (entsOf cs1)) (hideE β (entsOf cs2)) x.s x.c y z (gms offs) (gms x.us) x.b x.ps ?_)
    unfold dV_T
    rw [afind_mid x.s x.c _ _ _ hn']
    refine ⟨given6 .., ck, keys_all (keys_mid hk), rfl, ?_, rfl, rfl⟩
    refine FOk.wp (wVn_wp (hideE β (entsOf cs1)) (hideE β (entsOf cs2)) x.s x.c y z (gms offs) (gms x.us) x.b x.ps ?_)
    unfold wVn_T
    rw [List.append_assoc, afind_app _ _ _ h1, afind_app _ _ _ (afind_one h0), h2, hn', afind_app _ _ _ h1, h2]
    exact ⟨by rw [← List.append_assoc]; exact keys_all (keys_mid hk), rfl, by rw [keq_ky]; simp, rfl, rfl, keys_all hk, rfl, rfl⟩
  refine ⟨T', ⟨_, by simp, h1, fun a ha => ?_⟩, h2⟩
  simp only [List.append_nil, List.mem_append, List.mem_singleton] at ha
  rcases ha with (ha | ha) | rfl
  · exact hb a (by simp [ha])
  · exact hb a (by simp [ha])
  · exact hb x (by simp)
end Go.MN
end

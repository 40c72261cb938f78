import Derived.Test.YtpncnfhfjegibaaDoorL09e2
section
set_option linter.unusedVariables false
set_option maxRecDepth 100000
namespace Go.MN
open Go Go.Abs Go.Proofs
abbrev opC (sp : ByteArray) : AObj := .rows true 9 [[.int .i64 6, .str sp, .str w0, .str w0, .str w0, .str w0, .str w0, .int .i64 0, .int .i64 0]]
abbrev iqRB : Int → AVal := AVal.int IntKind.i64
abbrev tlqRB : ByteArray → List UInt8 := ByteArray.toList
open Go.Abs.AVal (str agg ptr slc fsl tuple nilp)
open Go.Abs.Dec (br use)
open Go.Abs.AExit (normal)
open Go.Abs.AObj (mp mq dead)
open Go.Abs.AVal (bool tt map)
open Go.IntKind (u8 i64 u64)
open Go.Abs.AObj (gh)
abbrev rzRB : Bool → Nat → List (List AVal) → AObj := AObj.rows
noncomputable abbrev pgRB : Program := Tryd.prog
abbrev z0RB (sp : ByteArray) : List AVal := [iqRB 6, str sp, str w0, str w0, str w0, str w0, str w0, iqRB 0, iqRB 0]
abbrev z1RB (ents : Ents) (bs : List Nat) (k : Nat) (off : Ents) : AState := [AObj.rows false 2 [[map 1, map 2]], AObj.mpn true ents bs k, AObj.mp true off]
abbrev z2RB (ents : Ents) (bs : List Nat) (k : Nat) (sp : ByteArray) (se : List Nat) : AState := [AObj.mpn true ents bs k, opC sp, AObj.miter (some 0) k se k]
abbrev z3RB (s : ByteArray) (y : ByteArray) (bt : Nat) : List AVal := [agg [str s, str y], AVal.blk bt 2 0 0, ptr 0 9 0 0]
abbrev z4RB (ents : Ents) (bs : List Nat) (k : Nat) (sp : ByteArray) (se : List Nat) (s : ByteArray) (y : ByteArray) : AState := [AObj.mpn true ents bs k, AObj.rows true 9 [(z0RB sp)], AObj.miter (some 0) k se k, AObj.rows true 2 [[str s, str y]]]
abbrev z5RB (ents : Ents) (bs : List Nat) (k : Nat) (off : Ents) (sp : ByteArray) : AState := [AObj.rows false 2 [[map 1, map 2]], AObj.mpn true ents bs k, AObj.mp true off, AObj.rows true 9 [(z0RB sp)], AObj.rows false 3 [[iqRB 0, iqRB 0, fsl true 0 [] (some 0)]]]
theorem c30_1 (s : ByteArray) (y : ByteArray) (sp : ByteArray) (bt : Nat) :
    FOk pgRB 30 ([ky s y, AVal.blk bt 2 0 0, ptr 0 9 0 0]) ([opC sp]) (bool (tlqRB s == tlqRB sp)) ([rzRB true 9 [(z0RB sp)]]) :=
  (evalF_ok followed Tryd.func30 (by kernel_rfl) (show evalF pgRB Tryd.f30 ([ky s y, AVal.blk bt 2 0 0, ptr 0 9 0 0]) ([opC sp]) ([]) = .ok (FRes.mk (bool (tlqRB s == tlqRB sp)) ([rzRB true 9 [(z0RB sp)], rzRB true 2 [[str s, str y]]]) (tr 6 ++ [])) by kernel_rfl) (allP_of (trC 6 trivial))).move ([0]) (by kernel_rfl) (by kernel_rfl) (by kernel_rfl)

def c30_T (s : ByteArray) (y : ByteArray) (sp : ByteArray) (bt : Nat) (Q : AVal → AState → Prop) : Prop := Q (AVal.bool (ByteArray.toList s == ByteArray.toList sp)) ([AObj.rows true 9 [[AVal.int IntKind.i64 6, AVal.str sp, AVal.str w0, AVal.str w0, AVal.str w0, AVal.str w0, AVal.str w0, AVal.int IntKind.i64 0, AVal.int IntKind.i64 0]]])
theorem c30_wp (s : ByteArray) (y : ByteArray) (sp : ByteArray) (bt : Nat) {Q : AVal → AState → Prop} (h : c30_T s y sp bt Q) : ∃ r σ', FOk pgRB 30 ([ky s y, AVal.blk bt 2 0 0, ptr 0 9 0 0]) ([opC sp]) r σ' ∧ Q r σ' :=
  ⟨_, _, c30_1 s y sp bt, h⟩


theorem clB_1 (ents : Ents) (bs : List Nat) (se : List Nat) (k : Nat) (bt : Nat) (sp : ByteArray) (s : ByteArray) (y : ByteArray) (d : Bool)
    (h1 : (List.all ents fun p => keyKind pgRB 69 (Prod.fst p)) = true)
    (h2 : d = true)
    (h3 : FOk pgRB 30 (z3RB s y bt) [rzRB true 9 [(z0RB sp)]] (bool d) [rzRB true 9 [(z0RB sp)]])
    (h4 : Option.getD (entV ents bs se) AVal.any = tuple [agg [str s, str y], AVal.blk bt 2 0 0])
    (h5 : Option.isSome (entV ents bs se) = true) :
    TripN pgRB 2 (restOf (loopNo Tryd.f29 0)) (mkR 19 [(0, map 0), (1, AVal.func 30 [ptr 1 9 0 0]), (7, ptr 2 1 0 0), (9, tt true)]) ((z2RB ents bs k sp se)) (normal) (mkR 19 [(0, map 0), (1, AVal.func 30 [ptr 1 9 0 0]), (7, ptr 2 1 0 0)]) ([AObj.mpn true (adel (agg [str s, str y]) ents) (adelB (agg [str s, str y]) ents bs) k, rzRB true 9 [(z0RB sp)], AObj.miter (some 0) k se k]) :=
  evalT (st := St.mk (mkR 19 [(0, map 0), (1, AVal.func 30 [ptr 1 9 0 0]), (7, ptr 2 1 0 0), (9, tt true)]) ((z2RB ents bs k sp se)) ([Dec.rw (tuple [ky s y, AVal.blk bt 2 0 0]), use [1] (z3RB s y bt) [rzRB true 9 [(z0RB sp)]] (bool d) [rzRB true 9 [(z0RB sp)]], br true]) []) (st' := St.mk (mkR 19 [(0, map 0), (1, AVal.func 30 [ptr 1 9 0 0]), (4, ptr 3 2 0 0), (5, AVal.blk bt 2 0 0), (7, ptr 2 1 0 0), (9, tt true), (10, tuple [agg [str s, str y], AVal.blk bt 2 0 0]), (11, agg [str s, str y]), (12, AVal.blk bt 2 0 0), (13, AVal.func 30 [ptr 1 9 0 0]), (14, agg [str s, str y]), (15, AVal.blk bt 2 0 0), (16, tt true), (17, map 0), (18, agg [str s, str y])]) ([AObj.mpn true (adel (agg [str s, str y]) ents) (adelB (agg [str s, str y]) ents bs) k, rzRB true 9 [(z0RB sp)], AObj.miter (some 0) k se k, rzRB true 2 [[str s, str y]]]) ([]) ((_) :: (tr 3 ++ ((_) :: ((Owed.use (owed pgRB 2) 30 [1] [agg [str s, str y], AVal.blk bt 2 0 0, ptr 1 9 0 0] (z4RB ents bs k sp se s y) (z3RB s y bt) [rzRB true 9 [(z0RB sp)]] (bool d) [rzRB true 9 [(z0RB sp)]]) :: (tr 5 ++ ((_) :: ((_) :: ((k = k) :: []))))))))) followed (by kernel_rfl) (allP_of ⟨h1, (trC 3 ⟨h2, ⟨⟨h3, rfl, rfl, rfl⟩, (trC 5 ⟨h4, ⟨h5, ⟨rfl, trivial⟩⟩⟩)⟩⟩)⟩) (keepM 19 [0, 1, 7]) ([0, 1, 2]) (by kernel_rfl) (by kernel_rfl) (by kernel_rfl)

theorem clB_2 (ents : Ents) (bs : List Nat) (se : List Nat) (k : Nat) (bt : Nat) (sp : ByteArray) (s : ByteArray) (y : ByteArray) (d : Bool)
    (h1 : d = false)
    (h2 : FOk pgRB 30 (z3RB s y bt) [rzRB true 9 [(z0RB sp)]] (bool d) [rzRB true 9 [(z0RB sp)]])
    (h3 : Option.getD (entV ents bs se) AVal.any = tuple [agg [str s, str y], AVal.blk bt 2 0 0])
    (h4 : Option.isSome (entV ents bs se) = true) :
    TripN pgRB 2 (restOf (loopNo Tryd.f29 0)) (mkR 19 [(0, map 0), (1, AVal.func 30 [ptr 1 9 0 0]), (7, ptr 2 1 0 0), (9, tt true)]) ((z2RB ents bs k sp se)) (normal) (mkR 19 [(0, map 0), (1, AVal.func 30 [ptr 1 9 0 0]), (7, ptr 2 1 0 0)]) ([AObj.mpn true ents bs k, rzRB true 9 [(z0RB sp)], AObj.miter (some 0) k se k]) :=
  evalT (st := St.mk (mkR 19 [(0, map 0), (1, AVal.func 30 [ptr 1 9 0 0]), (7, ptr 2 1 0 0), (9, tt true)]) ((z2RB ents bs k sp se)) ([Dec.rw (tuple [ky s y, AVal.blk bt 2 0 0]), use [1] (z3RB s y bt) [rzRB true 9 [(z0RB sp)]] (bool d) [rzRB true 9 [(z0RB sp)]], br false]) []) (st' := St.mk (mkR 19 [(0, map 0), (1, AVal.func 30 [ptr 1 9 0 0]), (4, ptr 3 2 0 0), (5, AVal.blk bt 2 0 0), (7, ptr 2 1 0 0), (9, tt true), (10, tuple [agg [str s, str y], AVal.blk bt 2 0 0]), (11, agg [str s, str y]), (12, AVal.blk bt 2 0 0), (13, AVal.func 30 [ptr 1 9 0 0]), (14, agg [str s, str y]), (15, AVal.blk bt 2 0 0), (16, tt false)]) ((z4RB ents bs k sp se s y)) ([]) ((_) :: ((Owed.use (owed pgRB 2) 30 [1] [agg [str s, str y], AVal.blk bt 2 0 0, ptr 1 9 0 0] (z4RB ents bs k sp se s y) (z3RB s y bt) [rzRB true 9 [(z0RB sp)]] (bool d) [rzRB true 9 [(z0RB sp)]]) :: (tr 5 ++ ((_) :: ((_) :: ((k = k) :: []))))))) followed (by kernel_rfl) (allP_of ⟨h1, ⟨⟨h2, rfl, rfl, rfl⟩, (trC 5 ⟨h3, ⟨h4, ⟨rfl, trivial⟩⟩⟩)⟩⟩) (keepM 19 [0, 1, 7]) ([0, 1, 2]) (by kernel_rfl) (by kernel_rfl) (by kernel_rfl)

def clB_T (ents : Ents) (bs : List Nat) (se : List Nat) (k : Nat) (bt : Nat) (sp : ByteArray) (s : ByteArray) (y : ByteArray) (d : Bool) (Q : AExit → Regs → AState → Prop) : Prop := (Option.isSome (entV ents bs se) = true) ∧ (Option.getD (entV ents bs se) AVal.any = AVal.tuple [AVal.agg [AVal.str s, AVal.str y], AVal.blk bt 2 0 0]) ∧ (FOk Tryd.prog 30 [AVal.agg [AVal.str s, AVal.str y], AVal.blk bt 2 0 0, AVal.ptr 0 9 0 0] [AObj.rows true 9 [[AVal.int IntKind.i64 6, AVal.str sp, AVal.str w0, AVal.str w0, AVal.str w0, AVal.str w0, AVal.str w0, AVal.int IntKind.i64 0, AVal.int IntKind.i64 0]]] (AVal.bool d) [AObj.rows true 9 [[AVal.int IntKind.i64 6, AVal.str sp, AVal.str w0, AVal.str w0, AVal.str w0, AVal.str w0, AVal.str w0, AVal.int IntKind.i64 0, AVal.int IntKind.i64 0]]]) ∧ ((d = true) → ((List.all ents fun p => keyKind Tryd.prog 69 (Prod.fst p)) = true) ∧ Q (AExit.normal) (mkR 19 [(0, AVal.map 0), (1, AVal.func 30 [AVal.ptr 1 9 0 0]), (7, AVal.ptr 2 1 0 0)]) ([AObj.mpn true (adel (AVal.agg [AVal.str s, AVal.str y]) ents) (adelB (AVal.agg [AVal.str s, AVal.str y]) ents bs) k, AObj.rows true 9 [[AVal.int IntKind.i64 6, AVal.str sp, AVal.str w0, AVal.str w0, AVal.str w0, AVal.str w0, AVal.str w0, AVal.int IntKind.i64 0, AVal.int IntKind.i64 0]], AObj.miter (some 0) k se k])) ∧ ((d = false) → Q (AExit.normal) (mkR 19 [(0, AVal.map 0), (1, AVal.func 30 [AVal.ptr 1 9 0 0]), (7, AVal.ptr 2 1 0 0)]) ([AObj.mpn true ents bs k, AObj.rows true 9 [[AVal.int IntKind.i64 6, AVal.str sp, AVal.str w0, AVal.str w0, AVal.str w0, AVal.str w0, AVal.str w0, AVal.int IntKind.i64 0, AVal.int IntKind.i64 0]], AObj.miter (some 0) k se k]))
theorem clB_wp (ents : Ents) (bs : List Nat) (se : List Nat) (k : Nat) (bt : Nat) (sp : ByteArray) (s : ByteArray) (y : ByteArray) (d : Bool) {Q : AExit → Regs → AState → Prop} (h : clB_T ents bs se k bt sp s y d Q) : ∃ e rg' σ', TripN pgRB 2 (restOf (loopNo Tryd.f29 0)) (mkR 19 [(0, map 0), (1, AVal.func 30 [ptr 1 9 0 0]), (7, ptr 2 1 0 0), (9, tt true)]) ((z2RB ents bs k sp se)) e rg' σ' ∧ Q e rg' σ' :=
  brE (fun c0 => ⟨_, _, _, clB_1 ents bs se k bt sp s y d ((h.2.2.2.1 c0).1) (c0) (h.2.2.1) (h.2.1) (h.1), (h.2.2.2.1 c0).2⟩) (fun c0 => ⟨_, _, _, clB_2 ents bs se k bt sp s y d (c0) (h.2.2.1) (h.2.1) (h.1), (h.2.2.2.2 c0)⟩)


theorem clX_1 (ents : Ents) (bs : List Nat) (se : List Nat) (k : Nat) (sp : ByteArray) :
    TripN pgRB 2 (restOf (loopNo Tryd.f29 0)) (mkR 19 [(0, map 0), (1, AVal.func 30 [ptr 1 9 0 0]), (7, ptr 2 1 0 0), (9, tt false)]) ((z2RB ents bs k sp se)) (AExit.exit 0) (mkR 19 [(0, map 0), (1, AVal.func 30 [ptr 1 9 0 0]), (7, ptr 2 1 0 0)]) ([AObj.mpn true ents bs k, rzRB true 9 [(z0RB sp)], AObj.miter (some 0) k se k]) :=
  evalT (st := St.mk (mkR 19 [(0, map 0), (1, AVal.func 30 [ptr 1 9 0 0]), (7, ptr 2 1 0 0), (9, tt false)]) ((z2RB ents bs k sp se)) ([]) []) (st' := St.mk (mkR 19 [(0, map 0), (1, AVal.func 30 [ptr 1 9 0 0]), (7, ptr 2 1 0 0), (9, tt false)]) ([AObj.mpn true ents bs k, rzRB true 9 [(z0RB sp)], AObj.miter (some 0) k se k]) ([]) []) followed (by kernel_rfl) (allP_of trivial) (keepM 19 [0, 1, 7]) ([0, 1, 2]) (by kernel_rfl) (by kernel_rfl) (by kernel_rfl)

def clX_T (ents : Ents) (bs : List Nat) (se : List Nat) (k : Nat) (sp : ByteArray) (Q : AExit → Regs → AState → Prop) : Prop := Q (AExit.exit 0) (mkR 19 [(0, AVal.map 0), (1, AVal.func 30 [AVal.ptr 1 9 0 0]), (7, AVal.ptr 2 1 0 0)]) ([AObj.mpn true ents bs k, AObj.rows true 9 [[AVal.int IntKind.i64 6, AVal.str sp, AVal.str w0, AVal.str w0, AVal.str w0, AVal.str w0, AVal.str w0, AVal.int IntKind.i64 0, AVal.int IntKind.i64 0]], AObj.miter (some 0) k se k])
theorem clX_wp (ents : Ents) (bs : List Nat) (se : List Nat) (k : Nat) (sp : ByteArray) {Q : AExit → Regs → AState → Prop} (h : clX_T ents bs se k sp Q) : ∃ e rg' σ', TripN pgRB 2 (restOf (loopNo Tryd.f29 0)) (mkR 19 [(0, map 0), (1, AVal.func 30 [ptr 1 9 0 0]), (7, ptr 2 1 0 0), (9, tt false)]) ((z2RB ents bs k sp se)) e rg' σ' ∧ Q e rg' σ' :=
  ⟨_, _, _, clX_1 ents bs se k sp, h⟩


theorem clF_1 (ents : Ents) (ents2 : Ents) (bs : List Nat) (bs2 : List Nat) (k : Nat) (sp : ByteArray)
    (h1 : TripN pgRB 2 (Code.loop (loopNo Tryd.f29 0)) (mkR 19 [(0, map 0), (1, AVal.func 30 [ptr 1 9 0 0]), (7, ptr 2 1 0 0)]) [AObj.mpn true ents bs k, rzRB true 9 [(z0RB sp)], AObj.miter (some 0) k [] k] (AExit.exit 0) (mkR 19 []) [AObj.mpn true ents2 bs2 k, rzRB true 9 [(z0RB sp)], dead]) :
    FOk pgRB 29 ([map 0, AVal.func 30 [ptr 1 9 0 0]]) ([AObj.mpn true ents bs k, opC sp]) (tuple []) ([AObj.mpn true ents2 bs2 k, rzRB true 9 [(z0RB sp)]]) :=
  (evalF_ok followed Tryd.func29 (by kernel_rfl) (show evalF pgRB Tryd.f29 ([map 0, AVal.func 30 [ptr 1 9 0 0]]) ([AObj.mpn true ents bs k, opC sp]) ([Dec.compact (keepM 19 [0, 1, 7]) [0, 1, 2], Dec.loop (AExit.exit 0) (mkR 19 []) [AObj.mpn true ents2 bs2 k, opC sp, dead]]) = .ok (FRes.mk (tuple []) ([AObj.mpn true ents2 bs2 k, rzRB true 9 [(z0RB sp)], dead]) ((Owed.loop (owed pgRB 2) (loopNo Tryd.f29 0) (mkR 19 [(0, map 0), (1, AVal.func 30 [ptr 1 9 0 0]), (7, ptr 2 1 0 0)]) [AObj.mpn true ents bs k, rzRB true 9 [(z0RB sp)], AObj.miter (some 0) k [] k] (AExit.exit 0) (mkR 19 []) [AObj.mpn true ents2 bs2 k, rzRB true 9 [(z0RB sp)], dead]) :: [])) by kernel_rfl) (allP_of ⟨h1, trivial⟩)).move ([0, 1]) (by kernel_rfl) (by kernel_rfl) (by kernel_rfl)

def clF_T (ents : Ents) (ents2 : Ents) (bs : List Nat) (bs2 : List Nat) (k : Nat) (sp : ByteArray) (Q : AVal → AState → Prop) : Prop := (TripN Tryd.prog 2 (Code.loop (loopNo Tryd.f29 0)) (mkR 19 [(0, AVal.map 0), (1, AVal.func 30 [AVal.ptr 1 9 0 0]), (7, AVal.ptr 2 1 0 0)]) [AObj.mpn true ents bs k, AObj.rows true 9 [[AVal.int IntKind.i64 6, AVal.str sp, AVal.str w0, AVal.str w0, AVal.str w0, AVal.str w0, AVal.str w0, AVal.int IntKind.i64 0, AVal.int IntKind.i64 0]], AObj.miter (some 0) k [] k] (AExit.exit 0) (mkR 19 []) [AObj.mpn true ents2 bs2 k, AObj.rows true 9 [[AVal.int IntKind.i64 6, AVal.str sp, AVal.str w0, AVal.str w0, AVal.str w0, AVal.str w0, AVal.str w0, AVal.int IntKind.i64 0, AVal.int IntKind.i64 0]], AObj.dead]) ∧ Q (AVal.tuple []) ([AObj.mpn true ents2 bs2 k, AObj.rows true 9 [[AVal.int IntKind.i64 6, AVal.str sp, AVal.str w0, AVal.str w0, AVal.str w0, AVal.str w0, AVal.str w0, AVal.int IntKind.i64 0, AVal.int IntKind.i64 0]]])
theorem clF_wp (ents : Ents) (ents2 : Ents) (bs : List Nat) (bs2 : List Nat) (k : Nat) (sp : ByteArray) {Q : AVal → AState → Prop} (h : clF_T ents ents2 bs bs2 k sp Q) : ∃ r σ', FOk pgRB 29 ([map 0, AVal.func 30 [ptr 1 9 0 0]]) ([AObj.mpn true ents bs k, opC sp]) r σ' ∧ Q r σ' :=
  ⟨_, _, clF_1 ents ents2 bs bs2 k sp (h.1), h.2⟩


theorem dC_1 (off : Ents) (ents : Ents) (ents2 : Ents) (sp : ByteArray) (bs : List Nat) (bs2 : List Nat) (k : Nat) (v2 : AVal)
    (h1 : FOk pgRB 29 [map 0, AVal.func 30 [ptr 1 9 0 0]] [AObj.mpn true ents bs k, rzRB true 9 [(z0RB sp)]] (tuple []) [AObj.mpn true ents2 bs2 k, rzRB true 9 [(z0RB sp)]])
    (h2 : tuple [asType pgRB 70 (reifyL [Kind.other] (AVal.cells (Option.getD (afind (agg [str sp, str w0]) ents) nilp))), tt (Option.isSome (afind (agg [str sp, str w0]) ents))] = tuple [nilp, tt false])
    (h3 : okCells pgRB 70 (Option.getD (afind (agg [str sp, str w0]) ents) nilp) = true)
    (h4 : (List.all ents fun p => keyKind pgRB 69 (Prod.fst p)) = true)
    (h5 : FOk pgRB 21 [agg (z0RB sp)] [] (iqRB 0) [])
    (h6 : FOk pgRB 27 [ptr 0 2 0 0] (z1RB ents bs k off) (bool true) (z1RB ents bs k off)) :
    FOk pgRB 13 ([ptr 0 2 0 0, opw 6 sp w0 w0 w0 w0 w0 0 0]) ((z1RB ents bs k off)) (agg [iqRB 0, iqRB 0, fsl true 2 [] none]) ([rzRB false 2 [[map 1, map 2]], AObj.mpn true ents2 bs2 k, mp true off]) :=
  (evalF_ok followed Tryd.func13 (by kernel_rfl) (show evalF pgRB Tryd.f13 ([ptr 0 2 0 0, opw 6 sp w0 w0 w0 w0 w0 0 0]) ((z1RB ents bs k off)) ([use [0, 1, 2] [ptr 0 2 0 0] (z1RB ents bs k off) (bool true) (z1RB ents bs k off), br false, use [] [agg (z0RB sp)] [] (iqRB 0) [], br false, Dec.rw (tuple [nilp, tt false]), br false, br true, use [1, 3] [map 0, AVal.func 30 [ptr 1 9 0 0]] [AObj.mpn true ents bs k, rzRB true 9 [(z0RB sp)]] (tuple []) [AObj.mpn true ents2 bs2 k, opC sp]]) = .ok (FRes.mk (agg [iqRB 0, iqRB 0, fsl true 2 [] none]) ([rzRB false 2 [[map 1, map 2]], AObj.mpn true ents2 bs2 k, mp true off, rzRB true 9 [(z0RB sp)], rzRB false 3 [[iqRB 0, iqRB 0, fsl true 0 [] (some 0)]], rzRB true 2 [[str sp, str w0]]]) (tr 4 ++ ((Owed.use (owed pgRB 3) 29 [1, 3] [map 1, AVal.func 30 [ptr 3 9 0 0]] [rzRB false 2 [[map 1, map 2]], AObj.mpn true ents bs k, mp true off, rzRB true 9 [(z0RB sp)], rzRB false 3 [[iqRB 0, iqRB 0, fsl true 0 [] (some 0)]], rzRB true 2 [[str sp, str w0]]] [map 0, AVal.func 30 [ptr 1 9 0 0]] [AObj.mpn true ents bs k, rzRB true 9 [(z0RB sp)]] (tuple []) [AObj.mpn true ents2 bs2 k, rzRB true 9 [(z0RB sp)]]) :: (tr 3 ++ ((false = false) :: (tr 15 ++ ((_) :: ((_) :: ((_) :: (tr 28 ++ ((false = false) :: ((Owed.use (owed pgRB 3) 21 [] [agg (z0RB sp)] (z5RB ents bs k off sp) [agg (z0RB sp)] [] (iqRB 0) []) :: (tr 3 ++ ((false = false) :: ((Owed.use (owed pgRB 3) 27 [0, 1, 2] [ptr 0 2 0 0] (z5RB ents bs k off sp) [ptr 0 2 0 0] (z1RB ents bs k off) (bool true) (z1RB ents bs k off)) :: []))))))))))))))) by kernel_rfl) (allP_of (trC 4 ⟨⟨h1, rfl, rfl, rfl⟩, (trC 3 ⟨rfl, (trC 15 ⟨h2, ⟨h3, ⟨h4, (trC 28 ⟨rfl, ⟨⟨h5, rfl, rfl, rfl⟩, (trC 3 ⟨rfl, ⟨⟨h6, rfl, rfl, rfl⟩, trivial⟩⟩)⟩⟩)⟩⟩⟩)⟩)⟩))).move ([0, 1, 2]) (by kernel_rfl) (by kernel_rfl) (by kernel_rfl)

def dC_T (off : Ents) (ents : Ents) (ents2 : Ents) (sp : ByteArray) (bs : List Nat) (bs2 : List Nat) (k : Nat) (v2 : AVal) (Q : AVal → AState → Prop) : Prop := (FOk Tryd.prog 27 [AVal.ptr 0 2 0 0] [AObj.rows false 2 [[AVal.map 1, AVal.map 2]], AObj.mpn true ents bs k, AObj.mp true off] (AVal.bool true) [AObj.rows false 2 [[AVal.map 1, AVal.map 2]], AObj.mpn true ents bs k, AObj.mp true off]) ∧ (FOk Tryd.prog 21 [AVal.agg [AVal.int IntKind.i64 6, AVal.str sp, AVal.str w0, AVal.str w0, AVal.str w0, AVal.str w0, AVal.str w0, AVal.int IntKind.i64 0, AVal.int IntKind.i64 0]] [] (AVal.int IntKind.i64 0) []) ∧ ((List.all ents fun p => keyKind Tryd.prog 69 (Prod.fst p)) = true) ∧ (okCells Tryd.prog 70 (Option.getD (afind (AVal.agg [AVal.str sp, AVal.str w0]) ents) AVal.nilp) = true) ∧ (AVal.tuple [asType Tryd.prog 70 (reifyL [Kind.other] (AVal.cells (Option.getD (afind (AVal.agg [AVal.str sp, AVal.str w0]) ents) AVal.nilp))), AVal.tt (Option.isSome (afind (AVal.agg [AVal.str sp, AVal.str w0]) ents))] = AVal.tuple [AVal.nilp, AVal.tt false]) ∧ (FOk Tryd.prog 29 [AVal.map 0, AVal.func 30 [AVal.ptr 1 9 0 0]] [AObj.mpn true ents bs k, AObj.rows true 9 [[AVal.int IntKind.i64 6, AVal.str sp, AVal.str w0, AVal.str w0, AVal.str w0, AVal.str w0, AVal.str w0, AVal.int IntKind.i64 0, AVal.int IntKind.i64 0]]] (AVal.tuple []) [AObj.mpn true ents2 bs2 k, AObj.rows true 9 [[AVal.int IntKind.i64 6, AVal.str sp, AVal.str w0, AVal.str w0, AVal.str w0, AVal.str w0, AVal.str w0, AVal.int IntKind.i64 0, AVal.int IntKind.i64 0]]]) ∧ Q (AVal.agg [AVal.int IntKind.i64 0, AVal.int IntKind.i64 0, AVal.fsl true 2 [] none]) ([AObj.rows false 2 [[AVal.map 1, AVal.map 2]], AObj.mpn true ents2 bs2 k, AObj.mp true off])
theorem dC_wp (off : Ents) (ents : Ents) (ents2 : Ents) (sp : ByteArray) (bs : List Nat) (bs2 : List Nat) (k : Nat) (v2 : AVal) {Q : AVal → AState → Prop} (h : dC_T off ents ents2 sp bs bs2 k v2 Q) : ∃ r σ', FOk pgRB 13 ([ptr 0 2 0 0, opw 6 sp w0 w0 w0 w0 w0 0 0]) ((z1RB ents bs k off)) r σ' ∧ Q r σ' :=
  ⟨_, _, dC_1 off ents ents2 sp bs bs2 k v2 (h.2.2.2.2.2.1) (h.2.2.2.2.1) (h.2.2.2.1) (h.2.2.1) (h.2.1) (h.1), h.2.2.2.2.2.2⟩


end Go.MN
end

section
set_option linter.unusedVariables false
set_option linter.unusedSimpArgs false
set_option linter.unusedSectionVars false
set_option maxRecDepth 100000
namespace Go.MN
open Go Go.Abs Go.Proofs
abbrev nmZ (z : Ch × Nat) : ByteArray × ByteArray := (z.1.s, z.1.c)
theorem filter_id {p : Ch × Nat → Bool} : ∀ {l : Zs}, (∀ y ∈ l, p y = true) → l.filter p = l
  | [], _ => rfl
  | y :: l, h => by rw [List.filter_cons, if_pos (h y (by simp)), filter_id fun x hx => h x (by simp [hx])]
theorem filter_same {p q : Ch × Nat → Bool} : ∀ {l : Zs}, (∀ y ∈ l, p y = q y) → l.filter p = l.filter q
  | [], _ => rfl
  | y :: l, h => by rw [List.filter_cons, List.filter_cons, h y (by simp), filter_same fun x hx => h x (by simp [hx])]
theorem adel_z {β : Nat → Nat} : ∀ {zs : Zs}, (bths zs).Nodup → (zs.map nmZ).Nodup → ∀ {z : Ch × Nat}, z ∈ zs →
    adel (ky z.1.s z.1.c) (hideE β (entsOf (chs zs))) = hideE β (entsOf (chs (zs.filter fun y => y.2 != z.2))) ∧ adelB (ky z.1.s z.1.c) (hideE β (entsOf (chs zs))) (bths zs) = bths (zs.filter fun y => y.2 != z.2)
  | [], _, _, z, h => by cases h
  | y :: zs, hb, hn, z, h => by
    have hb' := hb
    have hn' := hn
    unfold bths at hb'
    rw [List.map_cons, List.nodup_cons] at hb' hn'
    by_cases e : y = z
    · subst e
      have hf : (y :: zs).filter (fun x => x.2 != y.2) = zs := by
        rw [List.filter_cons, if_neg (by simp), filter_id fun x hx => ?_]
        have : x.2 ≠ y.2 := fun e => hb'.1 (List.mem_map.2 ⟨x, hx, e⟩)
        simpa using this
      rw [hf]
      refine ⟨?_, ?_⟩
      · show (if keq (ky y.1.s y.1.c) (ky y.1.s y.1.c) = true then hideE β (entsOf (chs zs)) else _) = _
        rw [if_pos (by rw [keq_ky]; simp)]
      · show (if keq (ky y.1.s y.1.c) (ky y.1.s y.1.c) = true then bths zs else _) = _
        rw [if_pos (by rw [keq_ky]; simp)]
    · have hz : z ∈ zs := by
        rcases List.mem_cons.1 h with rfl | h
        · exact absurd rfl e
        · exact h
      have hne : y.2 ≠ z.2 := fun e2 => hb'.1 (List.mem_map.2 ⟨z, hz, e2.symm⟩)
      have hnk : keq (ky z.1.s z.1.c) (ky y.1.s y.1.c) = false := by
        rw [keq_ky]
        cases hq : (decide (z.1.s = y.1.s) && decide (z.1.c = y.1.c)) with
        | false => rfl
        | true =>
          simp only [Bool.and_eq_true, decide_eq_true_eq] at hq
          exact absurd (List.mem_map.2 ⟨z, hz, by rw [nmZ, nmZ, hq.1, hq.2]⟩) hn'.1
      obtain ⟨h1, h2⟩ := adel_z (β := β) hb'.2 hn'.2 hz
      rw [List.filter_cons, if_pos (by simpa using hne)]
      refine ⟨?_, ?_⟩
      · show (if keq (ky z.1.s z.1.c) (ky y.1.s y.1.c) = true then _ else (ky y.1.s y.1.c, AVal.blk (β y.1.p) 2 0 0) :: adel (ky z.1.s z.1.c) (hideE β (entsOf (chs zs)))) = _
        rw [if_neg (by rw [hnk]; simp), h1]; rfl
      · show (if keq (ky z.1.s z.1.c) (ky y.1.s y.1.c) = true then _ else y.2 :: adelB (ky z.1.s z.1.c) (hideE β (entsOf (chs zs))) (bths zs)) = _
        rw [if_neg (by rw [hnk]; simp), h2]; rfl
def clP (sp : ByteArray) (se : List Nat) (z : Ch × Nat) : Bool := !(decide (z.1.s = sp) && se.contains z.2)
abbrev clZ (zs : Zs) (sp : ByteArray) (se : List Nat) : Zs := zs.filter (clP sp se)
theorem clZ_sub {zs : Zs} {sp : ByteArray} {se : List Nat} : (clZ zs sp se).Sublist zs := List.filter_sublist
abbrev RC : Regs := mkR 19 [(0, .map 0), (1, .func 30 [.ptr 1 9 0 0]), (7, .ptr 2 1 0 0)]
abbrev HC (β : Nat → Nat) (zs : Zs) (k : Nat) (sp : ByteArray) (it : AObj) : AState := [.mpn true (hideE β (entsOf (chs zs))) (bths zs) k, opC sp, it]
theorem cl_loop {β : Nat → Nat} {zs : Zs} (hb : (bths zs).Nodup) (hn : (zs.map nmZ).Nodup) (k : Nat) (sp : ByteArray) :
    TripN Tryd.prog 2 (.loop (loopNo Tryd.f29 0)) RC (HC β zs k sp (.miter (some 0) k [] k)) (.exit 0) (mkR 19 []) (HC β (zs.filter fun z => decide (z.1.s ≠ sp)) k sp .dead) := by
  let I : List Nat → Regs → AState → Prop := fun seen rg σ => rg = RC ∧ σ = HC β (clZ zs sp seen) k sp (.miter (some 0) k seen k)
  have h0 : clZ zs sp [] = zs := filter_id fun y hy => by simp [clP]
  have hL := mapLoop (P := Tryd.prog) (N := 2) (c := loopNo Tryd.f29 0) (rest := restOf (loopNo Tryd.f29 0)) (Post := fun e rg σ => e = .exit 0 ∧ rg = RC ∧ ∃ seen, σ = HC β (zs.filter fun z => decide (z.1.s ≠ sp)) k sp (.miter (some 0) k seen k)) rfl (bths zs) I ?_ RC (HC β zs k sp (.miter (some 0) k [] k)) [] ⟨rfl, by rw [h0]⟩
  · refine RunD.trip ((LoopD.runD hL).out ?_)
    rintro e rg σ ⟨rfl, rfl, seen, rfl⟩
    refine ⟨mkR 19 [], _, Weak.trans (Weak.kill (id := 2) rfl) (Weak.regs ?_), rfl, rfl, rfl⟩
    exact keepR_imp (keepM 19 []) _
  · rintro seen rg σ ⟨rfl, rfl⟩
    have hbS : (bths (clZ zs sp seen)).Nodup := hb.sublist (clZ_sub.map _)
    have hnS : ((clZ zs sp seen).map nmZ).Nodup := hn.sublist (clZ_sub.map _)
    refine ⟨2, 1, 0, k, true, hideE β (entsOf (chs (clZ zs sp seen))), bths (clZ zs sp seen), rfl, rfl, rfl, (by show 8 < 19; decide), fun b hb => ?_, fun b hb1 hb2 => ?_, fun hall => ?_⟩
    · obtain ⟨z, hz, rfl⟩ := List.mem_map.1 hb
      exact List.mem_map.2 ⟨z, clZ_sub.subset hz, rfl⟩
    · obtain ⟨z, hz, rfl⟩ := List.mem_map.1 hb1
      have hz0 := clZ_sub.subset hz
      refine RunD.of (clB_wp (hideE β (entsOf (chs (clZ zs sp seen)))) (bths (clZ zs sp seen)) (seen ++ [z.2]) k (β z.1.p) sp z.1.s z.1.c (decide (z.1.s = sp)) ?_)
      unfold clB_T
      rw [entV_z hbS hz, (adel_z hbS hnS hz).1, (adel_z hbS hnS hz).2]
      refine ⟨rfl, rfl, ?_, fun hd => ⟨keys_all (hide_keys β _), .inl ⟨rfl, rfl, ?_⟩⟩, fun hd => .inl ⟨rfl, rfl, ?_⟩⟩
      · have := FOk.wp (v := .bool (decide (z.1.s = sp))) (c30_wp z.1.s z.1.c sp (β z.1.p) (Q := fun r σ => r = .bool (decide (z.1.s = sp)) ∧ σ = [opC sp]) ⟨by rw [txeq], rfl⟩)
        exact this
      · have hsp := of_decide_eq_true hd
        have : (clZ zs sp seen).filter (fun y => y.2 != z.2) = clZ zs sp (seen ++ [z.2]) := by
          unfold clZ
          rw [List.filter_filter]
          refine filter_same fun y hy => ?_
          unfold clP
          by_cases e : y.2 = z.2
          · have := nodup_at hb hy hz0 e
            subst this
            simp [hsp]
          · simp [e]
        rw [this]
      · have hsp := of_decide_eq_false hd
        have : clZ zs sp seen = clZ zs sp (seen ++ [z.2]) := by
          refine filter_same fun y hy => ?_
          unfold clP
          by_cases e : y.2 = z.2
          · have := nodup_at hb hy hz0 e
            subst this
            simp [hsp]
          · simp [e]
        rw [← this]
    · refine RunD.of (clX_wp (hideE β (entsOf (chs (clZ zs sp seen)))) (bths (clZ zs sp seen)) seen k sp ?_)
      unfold clX_T
      refine ⟨by simp, rfl, rfl, seen, ?_⟩
      have : clZ zs sp seen = zs.filter fun z => decide (z.1.s ≠ sp) := by
        refine filter_same fun y hy => ?_
        unfold clP
        by_cases e : y.1.s = sp
        · by_cases h : y.2 ∈ seen
          · simp [e, h]
          · have hy2 : y ∈ clZ zs sp seen := List.mem_filter.2 ⟨hy, by simp [clP, h]⟩
            exact absurd (hall y.2 (List.mem_map.2 ⟨y, hy2, rfl⟩)) h
        · simp [e]
      rw [this]
theorem cl_ok3 {β : Nat → Nat} {zs : Zs} (hb : (bths zs).Nodup) (hn : (zs.map nmZ).Nodup) (k : Nat) (sp : ByteArray) :
    FOk Tryd.prog 29 [.map 0, .func 30 [.ptr 1 9 0 0]] [.mpn true (hideE β (entsOf (chs zs))) (bths zs) k, opC sp] (.tuple []) [.mpn true (hideE β (entsOf (chs (zs.filter fun z => decide (z.1.s ≠ sp))))) (bths (zs.filter fun z => decide (z.1.s ≠ sp))) k, opC sp] :=
  FOk.wp (clF_wp (hideE β (entsOf (chs zs))) (hideE β (entsOf (chs (zs.filter fun z => decide (z.1.s ≠ sp))))) (bths zs) (bths (zs.filter fun z => decide (z.1.s ≠ sp))) k sp ⟨cl_loop hb hn k sp, rfl, rfl⟩)
end Go.MN
end

section
set_option linter.unusedVariables false
set_option linter.unusedSimpArgs false
set_option linter.unusedSectionVars false
set_option maxRecDepth 100000
namespace Go.MN
open Go Go.Abs Go.Proofs
theorem mqPre {P : Program} {f : FuncId} {xs : List AVal} {σ σ' : AState} {v : AVal} {id : Nat} {pre : Ents} (h : FOk P f xs (σ.set id (.mp true pre)) v σ') (ho : Abs.obj σ id = .mq pre [] []) : FOk P f xs σ v σ' :=
  h.pre fun F w ρ r => r.reobj ho rfl fun b hb => by
    obtain ⟨hc, es, clock, h1, h2, h3, h4⟩ := r.obj _ _ _ (obj_some ho rfl) hb
    rw [List.append_nil, List.append_nil] at h2 h4
    rw [List.append_nil] at hc
    refine ⟨es, clock, h1, h2, h3, fun i k v hi => ?_⟩
    obtain ⟨e, q1, q2, q3⟩ := h4 i k v hi
    have := hc _ (List.mem_of_getElem? hi)
    exact ⟨e, q1, hidePure this.1 q2, hidePure this.2 q3⟩
theorem mqPost {P : Program} {f : FuncId} {xs : List AVal} {σ σ' : AState} {v : AVal} {id : Nat} {pre : Ents} (h : FOk P f xs σ v σ') (ho : Abs.obj σ' id = .mp true pre) (hc : ∀ e ∈ pre, idsIn [] e.1 = true ∧ idsIn [] e.2 = true) : FOk P f xs σ v (σ'.set id (.mq pre [] [])) :=
  h.post fun F w ρ r => r.reobj ho rfl fun b hb => by
    obtain ⟨es, clock, h1, h2, h3, h4⟩ := r.obj _ _ _ (obj_some ho rfl) hb
    refine ⟨fun e he => hc e (by simpa using he), es, clock, h1, by simpa using h2, h3, fun i k v hi => ?_⟩
    obtain ⟨e, q1, q2, q3⟩ := h4 i k v (by simpa using hi)
    exact ⟨e, q1, VRel.pure q2, VRel.pure q3⟩
theorem hide_cl (β : Nat → Nat) (cs : List Ch) : ∀ e ∈ hideE β (entsOf cs), idsIn [] e.1 = true ∧ idsIn [] e.2 = true := fun e he => by
  obtain ⟨e0, h0, rfl⟩ := List.mem_map.1 he
  obtain ⟨x, _, rfl⟩ := List.mem_map.1 h0
  exact ⟨rfl, rfl⟩
theorem flat_sub : ∀ {cs' cs : List Ch}, cs'.Sublist cs → (cs'.flatMap Ch.pl).Sublist (cs.flatMap Ch.pl)
  | _, _, .slnil => List.Sublist.refl _
  | _, _, .cons x h => by
    rw [List.flatMap_cons]
    exact (flat_sub h).trans (List.sublist_append_right _ _)
  | _, _, .cons_cons x h => by
    rw [List.flatMap_cons, List.flatMap_cons]
    exact List.Sublist.append (List.Sublist.refl _) (flat_sub h)
theorem MT.shrink {f : FuncId} {rest : List AVal} {v : AVal} {T : AState} {cs cs' : List Ch} {offs : List ByteArray} (hM : MT T cs offs) (hsub : cs'.Sublist cs) (hrest : idsInL [] rest = true) (hv : idsIn [] v = true)
    (h : ∀ β, FOk Tryd.prog f (.ptr 0 2 0 0 :: rest) (H3 (hideE β (entsOf cs)) (gms offs)) v (H3 (hideE β (entsOf cs')) (gms offs))) : ∃ T', MT T' cs' offs ∧ FOk Tryd.prog f (.ptr 0 2 0 0 :: rest) [.gh T] v [.gh T'] := by
  obtain ⟨hlen, hlt⟩ := hM.lt
  have hge : ∀ y ∈ cs, ∀ j ∈ y.pl, 3 ≤ j ∧ j < T.length := fun y hy j hj => by
    have hn := hM.nd
    rw [List.nodup_append] at hn
    obtain ⟨a, b, c⟩ := hlt y hy
    refine ⟨?_, by simp [Ch.pl] at hj; omega⟩
    rcases Nat.lt_or_ge j 3 with h | h
    · exact absurd rfl (hn.2.2 j (by simpa using h) j (List.mem_flatMap.2 ⟨y, hy, hj⟩))
    · exact h
  have hM' : MT (putT3 T (.rows false 2 [[.map 1, .map 2]]) (.mp true (gms offs)) [] (entsOf cs')) cs' offs := by
    obtain ⟨g0, g1, g2, g6, g7⟩ := putT3_get hM (.rows false 2 [[.map 1, .map 2]]) (.mp true (gms offs)) [] (entsOf cs')
    refine ⟨by rw [g0]; rfl, by rw [g1], by rw [g2]; rfl, fun y hy => ?_, fun y hy => ?_, fun y hy => ?_, hM.nd.sublist (List.Sublist.append (List.Sublist.refl _) (flat_sub hsub)), putT3_gh hM _ rfl⟩
    · have hy := hsub.subset hy
      have := hge y hy y.p (by simp [Ch.pl])
      rw [g6 y.p this.2 this.1]; exact hM.hp y hy
    · have hy := hsub.subset hy
      have := hge y hy y.q (by simp [Ch.pl])
      rw [g6 y.q this.2 this.1]; exact hM.hq y hy
    · have hy := hsub.subset hy
      have := hge y hy y.r (by simp [Ch.pl])
      rw [g6 y.r this.2 this.1]; exact hM.hr y hy
  refine ⟨_, hM', hM.gh hM' hrest hv ?_⟩
  have hltT : ∀ j ∈ [0, 1, 2], j < T.length := fun j hj => by simp at hj; omega
  show FOk Tryd.prog f (.ptr 0 2 0 0 :: rest) T v ((plug T [0, 1, 2] (.rows false 2 [[.map 1, .map 2]] :: .dead :: .mp true (gms offs) :: [])).set 1 (.mp false (entsOf cs')))
  rw [show entsOf cs' = entsOf cs' ++ [] ++ [] by simp]
  refine FOk.unmq 1 (pre := entsOf cs) (own := []) (post := []) (pre' := entsOf cs') (own' := []) (post' := []) (by rw [List.append_nil, List.append_nil]; exact hM.h1) ?_ ?_ ?_ fun β => ?_
  · rw [List.getElem?_set, if_pos rfl, if_pos]
    rw [plug_len rfl hltT (by simp)]; omega
  · intro e he
    rw [List.append_nil] at he
    obtain ⟨y, _, rfl⟩ := List.mem_map.1 he
    exact ⟨rfl, rfl⟩
  · intro e he
    rw [List.append_nil] at he
    obtain ⟨y, hy, rfl⟩ := List.mem_map.1 he
    exact ⟨y.ent, by rw [List.append_nil, List.append_nil]; exact List.mem_map.2 ⟨y, hsub.subset hy, rfl⟩, rfl⟩
  · have hS : (T.set 1 (.mq (hideE β (entsOf cs)) [] (hideE β []))).length = T.length := by simp
    have hget : ∀ j, j ≠ 1 → (T.set 1 (.mq (hideE β (entsOf cs)) [] (hideE β [])))[j]? = T[j]? := fun j hj => by rw [List.getElem?_set_ne (fun e => hj e.symm)]
    have hu : UseOk Tryd.prog f [0, 1, 2] (renL (emb [0, 1, 2] T.length) (.ptr 0 2 0 0 :: rest)) (T.set 1 (.mq (hideE β (entsOf cs)) [] (hideE β []))) (.ptr 0 2 0 0 :: rest) (H3 (hideE β (entsOf cs)) (gms offs)) v (H3 (hideE β (entsOf cs')) (gms offs)) := by
      refine ⟨h β, by rw [hS], ?_, ?_⟩
      · rw [hS]
        simp only [List.map_cons, List.map_nil]
        rw [hget 0 (by omega), hget 2 (by omega), List.getElem?_set_self (by omega), hM.h0, hM.h2]
        rfl
      · unfold okEmb
        have hsc : inScopeL 3 (AVal.ptr 0 2 0 0 :: rest) = true := by
          simp only [inScopeL, Bool.and_eq_true]; exact ⟨rfl, scopeL_closed rest hrest⟩
        have e1 : (List.all [0, 1, 2] fun j => decide (j < (T.set 1 (.mq (hideE β (entsOf cs)) [] (hideE β []))).length)) = true := by
          rw [hS, List.all_eq_true]; intro j hj; exact decide_eq_true (hltT j hj)
        rw [e1]
        show (true && true && inScopeL 3 (AVal.ptr 0 2 0 0 :: rest) && _ && _) = true
        rw [hsc]
        simp [inScopeO, inScopeL, inScope]
    have hf := hu.fok'
    rw [hS] at hf
    have ha : renL (emb [0, 1, 2] T.length) (AVal.ptr 0 2 0 0 :: rest) = AVal.ptr 0 2 0 0 :: rest := by
      simp only [renL]; rw [renL_closed rest hrest]; rfl
    rw [ha, ren_closed v hv] at hf
    rw [List.set_set]
    have hpl := plug_at (S := T.set 1 (.mq (hideE β (entsOf cs)) [] (hideE β []))) (S2 := T) (es := [0, 1, 2]) (σ1 := H3 (hideE β (entsOf cs')) (gms offs)) (σ2 := [.rows false 2 [[.map 1, .map 2]], .dead, .mp true (gms offs)]) (i0 := 1) (a := 1) rfl (by rw [hS]; exact hltT) (by simp) rfl hS.symm rfl rfl hget (fun i hi => by
      match i with
      | 0 => rfl
      | 1 => exact absurd rfl hi
      | i + 2 => rfl)
    rw [hS] at hpl
    rw [hpl] at hf
    exact hf
theorem doC3 (β : Nat → Nat) (cs : List Ch) (offs : List ByteArray) (sp : ByteArray) (hn : (cs.map fun x => (x.s, x.c)).Nodup) (hw : noCh sp w0 cs) (ck : FOk Tryd.prog 21 [opw 6 sp w0 w0 w0 w0 w0 0 0] [] (.int .i64 0) []) :
    FOk Tryd.prog 13 [.ptr 0 2 0 0, opw 6 sp w0 w0 w0 w0 w0 0 0] (H3 (hideE β (entsOf cs)) (gms offs)) (rep 0 0 nilps) (H3 (hideE β (entsOf (cs.filter fun x => decide (x.s ≠ sp)))) (gms offs)) := by
  refine mqPre (id := 1) ?_ rfl
  refine FOk.born (id := 1) (p := true) (ents := hideE β (entsOf cs)) rfl fun bs k hb hlb => ?_
  have hlb : bs.length = cs.length := by rw [hlb]; simp [hideE, entsOf]
  obtain ⟨zs, hz1, hz2⟩ : ∃ zs : Zs, chs zs = cs ∧ bths zs = bs := ⟨cs.zip bs, List.map_fst_zip (by omega), List.map_snd_zip (by omega)⟩
  subst hz1; subst hz2
  have hf : chs (zs.filter fun z => decide (z.1.s ≠ sp)) = (chs zs).filter fun x => decide (x.s ≠ sp) := by
    unfold chs; rw [List.filter_map]; rfl
  rw [← hf]
  have hcl := cl_ok3 (β := β) (zs := zs) hb.nodup (by unfold chs at hn; rw [List.map_map] at hn; exact hn) k sp
  have h := FOk.wp (v := rep 0 0 nilps) (σ' := A3 β (entsOf (chs (zs.filter fun z => decide (z.1.s ≠ sp)))) (gms offs) (bths (zs.filter fun z => decide (z.1.s ≠ sp))) k) (dC_wp (gms offs) (hideE β (entsOf (chs zs))) (hideE β (entsOf (chs (zs.filter fun z => decide (z.1.s ≠ sp))))) sp (bths zs) (bths (zs.filter fun z => decide (z.1.s ≠ sp))) k .nilp (Q := fun r σ => r = _ ∧ σ = _) (by
    unfold dC_T
    rw [afind_none β sp w0 (chs zs) hw]
    exact ⟨FOk.wp (gv3n_wp β _ _ _ _ ⟨rfl, rfl⟩), ck, keys_all (hide_keys β _), rfl, rfl, hcl, rfl, rfl⟩))
  exact mqPost (id := 1) (h.unborn (id := 1) rfl) rfl (hide_cl β _)
theorem doC {T : AState} {m : List Mo} {offs : List ByteArray} (h : MX T m offs) (sp : ByteArray) (hn : (m.map fun x => (x.s, x.c)).Nodup) (hw : noMo sp w0 m) (ck : FOk Tryd.prog 21 [opw 6 sp w0 w0 w0 w0 w0 0 0] [] (.int .i64 0) []) : Done (opw 6 sp w0 w0 w0 w0 w0 0 0) T (rep 0 0 nilps) (m.filter fun x => decide (x.s ≠ sp)) offs := by
  obtain ⟨cs, rfl, hM, hb⟩ := h.ex
  rw [List.map_map] at hn
  obtain ⟨T', h1, h2⟩ := hM.shrink (cs' := cs.filter fun x => decide (x.s ≠ sp)) List.filter_sublist rfl rfl fun β => doC3 β cs offs sp hn (noMo_ch hw) ck
  refine ⟨T', ⟨_, ?_, h1, fun y hy => hb y (List.mem_filter.1 hy).1⟩, h2⟩
  rw [List.filter_map]; rfl
end Go.MN
end

section
set_option linter.unusedVariables false
set_option maxRecDepth 100000
namespace Go.MN
open Go Go.Abs Go.Proofs
abbrev tlqRE : ByteArray → List UInt8 := ByteArray.toList
open Go.Abs.AVal (str agg ptr slc fsl tuple nilp)
open Go.Abs.Dec (br use)
open Go.Abs.AExit (normal)
open Go.Abs.AObj (mp mq dead)
open Go.Abs.AVal (bool tt map)
open Go.IntKind (u8 i64 u64)
open Go.Abs.AObj (gh)
abbrev rzRE : Bool → Nat → List (List AVal) → AObj := AObj.rows
noncomputable abbrev pgRE : Program := Tryd.prog
abbrev z0RE (β : Nat → Nat) (ents : Ents) (bs : List Nat) (k : Nat) (off : Ents) : AState := [AObj.rows false 2 [[map 1, map 2]], AObj.mpn true (hideE β ents) bs k, AObj.mp true off]
abbrev z1RE (β : Nat → Nat) (ents : Ents) (bs : List Nat) (k : Nat) (off : Ents) (ns : List ByteArray) : AState := [AObj.rows false 2 [[map 1, map 2]], AObj.mpn true (hideE β ents) bs k, AObj.mp true off, AObj.bag 1 (List.map (fun u => [str u]) ns), AObj.dead]
abbrev z2RE (rs : List (List AVal)) (k : Nat) (se : List Nat) : AState := [AObj.rows true 1 rs, AObj.miter (some 1) k se k]
abbrev z3RE (β : Nat → Nat) (ents : Ents) (bs : List Nat) (k : Nat) (off : Ents) (rs : List (List AVal)) (se : List Nat) : AState := [AObj.rows false 2 [[map 1, map 2]], AObj.mpn true (hideE β ents) bs k, AObj.mp true off, AObj.rows true 1 rs, AObj.miter (some 1) k se k]
theorem chB_1 (β : Nat → Nat) (ents : Ents) (off : Ents) (bs : List Nat) (se : List Nat) (k : Nat) (bt : Nat) (sp : ByteArray) (s : ByteArray) (y : ByteArray) (b : Bool) (rs : List (List AVal))
    (h1 : decide ((List.length rs + 1) * 16 ≤ 140737488355328 ∧ List.length rs + 1 ≤ 9223372036854775807) = true)
    (h2 : (tlqRE s == tlqRE sp) = true)
    (h3 : Option.getD (entV (hideE β ents) bs se) AVal.any = tuple [agg [str s, str y], AVal.blk bt 2 0 0])
    (h4 : Option.isSome (entV (hideE β ents) bs se) = true) :
    TripN pgRE 3 (restOf (loopNo Tryd.f19 0)) (mkR 31 [(1, str sp), (5, slc b 3 1 0 (List.length rs) none), (14, ptr 4 1 0 0), (16, tt true)]) (A3 β ents off bs k ++ (z2RE rs k se)) (normal) (mkR 31 [(1, str sp), (5, slc (b && false) 3 1 0 (List.length rs + 1) none), (14, ptr 4 1 0 0)]) ([rzRE false 2 [[map 1, map 2]], AObj.mpn true (hideE β ents) bs k, mp true off, rzRE true 1 (rs ++ [[str y]]), AObj.miter (some 1) k se k]) :=
  evalT (st := St.mk (mkR 31 [(1, str sp), (5, slc b 3 1 0 (List.length rs) none), (14, ptr 4 1 0 0), (16, tt true)]) (A3 β ents off bs k ++ (z2RE rs k se)) ([Dec.rw (tuple [ky s y, AVal.blk bt 2 0 0]), br true]) []) (st' := St.mk (mkR 31 [(1, str sp), (5, slc (b && false) 7 1 0 (List.length rs + 1) none), (6, ptr 5 2 0 0), (14, ptr 4 1 0 0), (16, tt true), (17, tuple [agg [str s, str y], AVal.blk bt 2 0 0]), (18, agg [str s, str y]), (19, ptr 5 2 0 0), (20, str s), (21, str sp), (22, tt true), (23, slc b 3 1 0 (List.length rs) none), (24, ptr 5 2 0 1), (25, str y), (26, slc false 6 1 0 1 (some 1)), (27, slc (b && false) 7 1 0 (List.length rs + 1) none)]) ([rzRE false 2 [[map 1, map 2]], AObj.mpn true (hideE β ents) bs k, mp true off, dead, AObj.miter (some 1) k se k, rzRE true 2 [[str s, str y]], rzRE true 1 [[str y]], rzRE true 1 (rs ++ [[str y]])]) ([]) ((decide (List.length rs = List.length rs) = true) :: ((_) :: (tr 5 ++ ((_) :: (tr 5 ++ ((_) :: ((_) :: ((k = k) :: []))))))))) followed (by kernel_rfl) (allP_of ⟨decide_eq_true rfl, ⟨h1, (trC 5 ⟨h2, (trC 5 ⟨h3, ⟨h4, ⟨rfl, trivial⟩⟩⟩)⟩)⟩⟩) (keepM 31 [1, 5, 14]) ([0, 1, 2, 7, 4]) (by kernel_rfl) (by kernel_rfl) (by kernel_rfl)

theorem chB_2 (β : Nat → Nat) (ents : Ents) (off : Ents) (bs : List Nat) (se : List Nat) (k : Nat) (bt : Nat) (sp : ByteArray) (s : ByteArray) (y : ByteArray) (b : Bool) (rs : List (List AVal))
    (h1 : (tlqRE s == tlqRE sp) = false)
    (h2 : Option.getD (entV (hideE β ents) bs se) AVal.any = tuple [agg [str s, str y], AVal.blk bt 2 0 0])
    (h3 : Option.isSome (entV (hideE β ents) bs se) = true) :
    TripN pgRE 3 (restOf (loopNo Tryd.f19 0)) (mkR 31 [(1, str sp), (5, slc b 3 1 0 (List.length rs) none), (14, ptr 4 1 0 0), (16, tt true)]) (A3 β ents off bs k ++ (z2RE rs k se)) (normal) (mkR 31 [(1, str sp), (5, slc b 3 1 0 (List.length rs) none), (14, ptr 4 1 0 0)]) ((z3RE β ents bs k off rs se)) :=
  evalT (st := St.mk (mkR 31 [(1, str sp), (5, slc b 3 1 0 (List.length rs) none), (14, ptr 4 1 0 0), (16, tt true)]) (A3 β ents off bs k ++ (z2RE rs k se)) ([Dec.rw (tuple [ky s y, AVal.blk bt 2 0 0]), br false]) []) (st' := St.mk (mkR 31 [(1, str sp), (5, slc b 3 1 0 (List.length rs) none), (6, ptr 5 2 0 0), (14, ptr 4 1 0 0), (16, tt true), (17, tuple [agg [str s, str y], AVal.blk bt 2 0 0]), (18, agg [str s, str y]), (19, ptr 5 2 0 0), (20, str s), (21, str sp), (22, tt false)]) ([rzRE false 2 [[map 1, map 2]], AObj.mpn true (hideE β ents) bs k, mp true off, rzRE true 1 rs, AObj.miter (some 1) k se k, rzRE true 2 [[str s, str y]]]) ([]) ((_) :: (tr 5 ++ ((_) :: ((_) :: ((k = k) :: [])))))) followed (by kernel_rfl) (allP_of ⟨h1, (trC 5 ⟨h2, ⟨h3, ⟨rfl, trivial⟩⟩⟩)⟩) (keepM 31 [1, 5, 14]) ([0, 1, 2, 3, 4]) (by kernel_rfl) (by kernel_rfl) (by kernel_rfl)

def chB_T (β : Nat → Nat) (ents : Ents) (off : Ents) (bs : List Nat) (se : List Nat) (k : Nat) (bt : Nat) (sp : ByteArray) (s : ByteArray) (y : ByteArray) (b : Bool) (rs : List (List AVal)) (Q : AExit → Regs → AState → Prop) : Prop := (Option.isSome (entV (hideE β ents) bs se) = true) ∧ (Option.getD (entV (hideE β ents) bs se) AVal.any = AVal.tuple [AVal.agg [AVal.str s, AVal.str y], AVal.blk bt 2 0 0]) ∧ (((ByteArray.toList s == ByteArray.toList sp) = true) → (decide ((List.length rs + 1) * 16 ≤ 140737488355328 ∧ List.length rs + 1 ≤ 9223372036854775807) = true) ∧ Q (AExit.normal) (mkR 31 [(1, AVal.str sp), (5, AVal.slc (b && false) 3 1 0 (List.length rs + 1) none), (14, AVal.ptr 4 1 0 0)]) ([AObj.rows false 2 [[AVal.map 1, AVal.map 2]], AObj.mpn true (hideE β ents) bs k, AObj.mp true off, AObj.rows true 1 (rs ++ [[AVal.str y]]), AObj.miter (some 1) k se k])) ∧ (((ByteArray.toList s == ByteArray.toList sp) = false) → Q (AExit.normal) (mkR 31 [(1, AVal.str sp), (5, AVal.slc b 3 1 0 (List.length rs) none), (14, AVal.ptr 4 1 0 0)]) ([AObj.rows false 2 [[AVal.map 1, AVal.map 2]], AObj.mpn true (hideE β ents) bs k, AObj.mp true off, AObj.rows true 1 rs, AObj.miter (some 1) k se k]))
theorem chB_wp (β : Nat → Nat) (ents : Ents) (off : Ents) (bs : List Nat) (se : List Nat) (k : Nat) (bt : Nat) (sp : ByteArray) (s : ByteArray) (y : ByteArray) (b : Bool) (rs : List (List AVal)) {Q : AExit → Regs → AState → Prop} (h : chB_T β ents off bs se k bt sp s y b rs Q) : ∃ e rg' σ', TripN pgRE 3 (restOf (loopNo Tryd.f19 0)) (mkR 31 [(1, str sp), (5, slc b 3 1 0 (List.length rs) none), (14, ptr 4 1 0 0), (16, tt true)]) (A3 β ents off bs k ++ (z2RE rs k se)) e rg' σ' ∧ Q e rg' σ' :=
  brE (fun c0 => ⟨_, _, _, chB_1 β ents off bs se k bt sp s y b rs ((h.2.2.1 c0).1) (c0) (h.2.1) (h.1), (h.2.2.1 c0).2⟩) (fun c0 => ⟨_, _, _, chB_2 β ents off bs se k bt sp s y b rs (c0) (h.2.1) (h.1), (h.2.2.2 c0)⟩)


theorem chX_1 (β : Nat → Nat) (ents : Ents) (off : Ents) (bs : List Nat) (se : List Nat) (k : Nat) (sp : ByteArray) (b : Bool) (rs : List (List AVal)) :
    TripN pgRE 3 (restOf (loopNo Tryd.f19 0)) (mkR 31 [(1, str sp), (5, slc b 3 1 0 (List.length rs) none), (14, ptr 4 1 0 0), (16, tt false)]) (A3 β ents off bs k ++ (z2RE rs k se)) (AExit.exit 0) (mkR 31 [(1, str sp), (5, slc b 3 1 0 (List.length rs) none), (14, ptr 4 1 0 0)]) ((z3RE β ents bs k off rs se)) :=
  evalT (st := St.mk (mkR 31 [(1, str sp), (5, slc b 3 1 0 (List.length rs) none), (14, ptr 4 1 0 0), (16, tt false)]) (A3 β ents off bs k ++ (z2RE rs k se)) ([]) []) (st' := St.mk (mkR 31 [(1, str sp), (5, slc b 3 1 0 (List.length rs) none), (14, ptr 4 1 0 0), (16, tt false)]) ((z3RE β ents bs k off rs se)) ([]) []) followed (by kernel_rfl) (allP_of trivial) (keepM 31 [1, 5, 14]) ([0, 1, 2, 3, 4]) (by kernel_rfl) (by kernel_rfl) (by kernel_rfl)

def chX_T (β : Nat → Nat) (ents : Ents) (off : Ents) (bs : List Nat) (se : List Nat) (k : Nat) (sp : ByteArray) (b : Bool) (rs : List (List AVal)) (Q : AExit → Regs → AState → Prop) : Prop := Q (AExit.exit 0) (mkR 31 [(1, AVal.str sp), (5, AVal.slc b 3 1 0 (List.length rs) none), (14, AVal.ptr 4 1 0 0)]) ([AObj.rows false 2 [[AVal.map 1, AVal.map 2]], AObj.mpn true (hideE β ents) bs k, AObj.mp true off, AObj.rows true 1 rs, AObj.miter (some 1) k se k])
theorem chX_wp (β : Nat → Nat) (ents : Ents) (off : Ents) (bs : List Nat) (se : List Nat) (k : Nat) (sp : ByteArray) (b : Bool) (rs : List (List AVal)) {Q : AExit → Regs → AState → Prop} (h : chX_T β ents off bs se k sp b rs Q) : ∃ e rg' σ', TripN pgRE 3 (restOf (loopNo Tryd.f19 0)) (mkR 31 [(1, str sp), (5, slc b 3 1 0 (List.length rs) none), (14, ptr 4 1 0 0), (16, tt false)]) (A3 β ents off bs k ++ (z2RE rs k se)) e rg' σ' ∧ Q e rg' σ' :=
  ⟨_, _, _, chX_1 β ents off bs se k sp b rs, h⟩


theorem chF_1 (β : Nat → Nat) (ents : Ents) (off : Ents) (bs : List Nat) (k : Nat) (n : Nat) (sp : ByteArray) (nb : Bool) (ns : List ByteArray) (vs : List ByteArray)
    (h1 : FOk pgRE 33 [slc nb 0 1 0 n none] [AObj.bag 1 (List.map (fun u => [str u]) ns)] (tuple []) [rzRE true 1 (List.map (fun u => [str u]) vs)])
    (h2 : TripN pgRE 3 (Code.loop (loopNo Tryd.f19 0)) (mkR 31 [(1, str sp), (5, slc true 3 1 0 0 none), (14, ptr 4 1 0 0)]) [rzRE false 2 [[map 1, map 2]], AObj.mpn true (hideE β ents) bs k, mp true off, rzRE true 1 [], AObj.miter (some 1) k [] k] (AExit.exit 0) (mkR 31 [(5, slc nb 3 1 0 n none)]) (z1RE β ents bs k off ns))
    (h3 : FOk pgRE 27 [ptr 0 2 0 0] (z0RE β ents bs k off) (bool true) (z0RE β ents bs k off)) :
    FOk pgRE 19 ([ptr 0 2 0 0, str sp]) (A3 β ents off bs k) (slc nb 3 1 0 n none) ([rzRE false 2 [[map 1, map 2]], AObj.mpn true (hideE β ents) bs k, mp true off, rzRE true 1 (List.map (fun u => [str u]) vs)]) :=
  (evalF_ok followed Tryd.func19 (by kernel_rfl) (show evalF pgRE Tryd.f19 ([ptr 0 2 0 0, str sp]) (A3 β ents off bs k) ([use [0, 1, 2] [ptr 0 2 0 0] (z0RE β ents bs k off) (bool true) (z0RE β ents bs k off), br false, Dec.place 5 1 true, Dec.compact (keepM 31 [1, 5, 14]) [0, 1, 2, 4, 3], Dec.loop (AExit.exit 0) (mkR 31 [(5, slc nb 3 1 0 n none)]) (A3 β ents off bs k ++ [AObj.bag 1 (List.map (fun u => [str u]) ns), dead]), use [3] [slc nb 0 1 0 n none] [AObj.bag 1 (List.map (fun u => [str u]) ns)] (tuple []) [rzRE true 1 (List.map (fun u => [str u]) vs)]]) = .ok (FRes.mk (slc nb 3 1 0 n none) ([rzRE false 2 [[map 1, map 2]], AObj.mpn true (hideE β ents) bs k, mp true off, rzRE true 1 (List.map (fun u => [str u]) vs), dead]) ((Owed.use (owed pgRE 3) 33 [3] [slc nb 3 1 0 n none] (z1RE β ents bs k off ns) [slc nb 0 1 0 n none] [AObj.bag 1 (List.map (fun u => [str u]) ns)] (tuple []) [rzRE true 1 (List.map (fun u => [str u]) vs)]) :: ((Owed.loop (owed pgRE 3) (loopNo Tryd.f19 0) (mkR 31 [(1, str sp), (5, slc true 3 1 0 0 none), (14, ptr 4 1 0 0)]) [rzRE false 2 [[map 1, map 2]], AObj.mpn true (hideE β ents) bs k, mp true off, rzRE true 1 [], AObj.miter (some 1) k [] k] (AExit.exit 0) (mkR 31 [(5, slc nb 3 1 0 n none)]) (z1RE β ents bs k off ns)) :: (tr 2 ++ ((false = false) :: ((Owed.use (owed pgRE 3) 27 [0, 1, 2] [ptr 0 2 0 0] (z0RE β ents bs k off) [ptr 0 2 0 0] (z0RE β ents bs k off) (bool true) (z0RE β ents bs k off)) :: [])))))) by kernel_rfl) (allP_of ⟨⟨h1, rfl, rfl, rfl⟩, ⟨h2, (trC 2 ⟨rfl, ⟨⟨h3, rfl, rfl, rfl⟩, trivial⟩⟩)⟩⟩)).move ([0, 1, 2, 3]) (by kernel_rfl) (by kernel_rfl) (by kernel_rfl)

def chF_T (β : Nat → Nat) (ents : Ents) (off : Ents) (bs : List Nat) (k : Nat) (n : Nat) (sp : ByteArray) (nb : Bool) (ns : List ByteArray) (vs : List ByteArray) (Q : AVal → AState → Prop) : Prop := (FOk Tryd.prog 27 [AVal.ptr 0 2 0 0] [AObj.rows false 2 [[AVal.map 1, AVal.map 2]], AObj.mpn true (hideE β ents) bs k, AObj.mp true off] (AVal.bool true) [AObj.rows false 2 [[AVal.map 1, AVal.map 2]], AObj.mpn true (hideE β ents) bs k, AObj.mp true off]) ∧ (TripN Tryd.prog 3 (Code.loop (loopNo Tryd.f19 0)) (mkR 31 [(1, AVal.str sp), (5, AVal.slc true 3 1 0 0 none), (14, AVal.ptr 4 1 0 0)]) [AObj.rows false 2 [[AVal.map 1, AVal.map 2]], AObj.mpn true (hideE β ents) bs k, AObj.mp true off, AObj.rows true 1 [], AObj.miter (some 1) k [] k] (AExit.exit 0) (mkR 31 [(5, AVal.slc nb 3 1 0 n none)]) [AObj.rows false 2 [[AVal.map 1, AVal.map 2]], AObj.mpn true (hideE β ents) bs k, AObj.mp true off, AObj.bag 1 (List.map (fun u => [AVal.str u]) ns), AObj.dead]) ∧ (FOk Tryd.prog 33 [AVal.slc nb 0 1 0 n none] [AObj.bag 1 (List.map (fun u => [AVal.str u]) ns)] (AVal.tuple []) [AObj.rows true 1 (List.map (fun u => [AVal.str u]) vs)]) ∧ Q (AVal.slc nb 3 1 0 n none) ([AObj.rows false 2 [[AVal.map 1, AVal.map 2]], AObj.mpn true (hideE β ents) bs k, AObj.mp true off, AObj.rows true 1 (List.map (fun u => [AVal.str u]) vs)])
theorem chF_wp (β : Nat → Nat) (ents : Ents) (off : Ents) (bs : List Nat) (k : Nat) (n : Nat) (sp : ByteArray) (nb : Bool) (ns : List ByteArray) (vs : List ByteArray) {Q : AVal → AState → Prop} (h : chF_T β ents off bs k n sp nb ns vs Q) : ∃ r σ', FOk pgRE 19 ([ptr 0 2 0 0, str sp]) (A3 β ents off bs k) r σ' ∧ Q r σ' :=
  ⟨_, _, chF_1 β ents off bs k n sp nb ns vs (h.2.2.1) (h.2.1) (h.1), h.2.2.2⟩


end Go.MN
end

section
set_option linter.unusedVariables false
set_option linter.unusedSimpArgs false
set_option linter.unusedSectionVars false
set_option maxRecDepth 100000
namespace Go.MN
open Go Go.Abs Go.Proofs
def nmOf (zs : Zs) (sp : ByteArray) (b : Nat) : List ByteArray := ((zs.find? fun z => z.2 == b).map fun z => if z.1.s = sp then [z.1.c] else []).getD []
abbrev nms (cs : List Ch) (sp : ByteArray) : List ByteArray := (cs.filter fun x => decide (x.s = sp)).map (·.c)
abbrev rowsS (l : List ByteArray) : List (List AVal) := l.map fun u => [AVal.str u]
theorem nmOf_z {zs : Zs} (hb : (bths zs).Nodup) {sp : ByteArray} {z : Ch × Nat} (hz : z ∈ zs) : nmOf zs sp z.2 = if z.1.s = sp then [z.1.c] else [] := by
  unfold nmOf
  rw [find_one hz (by simp) fun y hy hp => nodup_at hb hy hz (by simpa using hp)]
  rfl
theorem nm_flat {sp : ByteArray} {f : Nat → List ByteArray} : ∀ {l : Zs}, (∀ z ∈ l, f z.2 = if z.1.s = sp then [z.1.c] else []) → (bths l).flatMap f = nms (chs l) sp
  | [], _ => rfl
  | z :: l, h => by
    show f z.2 ++ (bths l).flatMap f = ((z.1 :: chs l).filter _).map _
    rw [h z (by simp), nm_flat fun y hy => h y (by simp [hy]), List.filter_cons]
    by_cases e : z.1.s = sp
    · rw [if_pos e, if_pos (by simpa using e)]; rfl
    · rw [if_neg e, if_neg (by simpa using e)]; rfl
abbrev RH (sp : ByteArray) (b : Bool) (n : Nat) : Regs := mkR 31 [(1, .str sp), (5, .slc b 3 1 0 n none), (14, .ptr 4 1 0 0)]
theorem ch_loop {β : Nat → Nat} {zs : Zs} (hb : (bths zs).Nodup) (off : Ents) (k : Nat) (sp : ByteArray) (hl : zs.length ≤ 1000) :
    TripN Tryd.prog 3 (.loop (loopNo Tryd.f19 0)) (RH sp true 0) (A3 β (entsOf (chs zs)) off (bths zs) k ++ [.rows true 1 [], .miter (some 1) k [] k]) (.exit 0)
      (mkR 31 [(5, .slc (nms (chs zs) sp).isEmpty 3 1 0 (nms (chs zs) sp).length none)]) (A3 β (entsOf (chs zs)) off (bths zs) k ++ [.bag 1 (rowsS (nms (chs zs) sp)), .dead]) := by
  let nm : List Nat → List ByteArray := fun se => se.flatMap (nmOf zs sp)
  let I : List Nat → Regs → AState → Prop := fun seen rg σ => seen.Nodup ∧ (∀ b ∈ seen, b ∈ bths zs) ∧ (nm seen).length ≤ seen.length ∧ rg = RH sp (nm seen).isEmpty (nm seen).length ∧ σ = A3 β (entsOf (chs zs)) off (bths zs) k ++ [.rows true 1 (rowsS (nm seen)), .miter (some 1) k seen k]
  let PO : AExit → Regs → AState → Prop := fun e rg σ => e = .exit 0 ∧ ∃ seen, seen.Nodup ∧ (∀ b ∈ seen, b ∈ bths zs) ∧ (∀ b ∈ bths zs, b ∈ seen) ∧ rg = RH sp (nm seen).isEmpty (nm seen).length ∧ σ = A3 β (entsOf (chs zs)) off (bths zs) k ++ [.rows true 1 (rowsS (nm seen)), .miter (some 1) k seen k]
  have hL := mapLoop (P := Tryd.prog) (N := 3) (c := loopNo Tryd.f19 0) (rest := restOf (loopNo Tryd.f19 0)) (Post := PO) rfl (bths zs) I ?_ _ _ [] ⟨List.nodup_nil, by simp, Nat.le_refl _, rfl, rfl⟩
  · refine RunD.trip ((LoopD.runD hL).out ?_)
    rintro e rg σ ⟨rfl, seen, h1, h2, h3, rfl, rfl⟩
    have hp : (nm seen).Perm (nms (chs zs) sp) := by
      have h := (perm_nodup seen (bths zs) h1 hb fun x => ⟨h2 x, h3 x⟩).flatMap_right (nmOf zs sp)
      rw [nm_flat fun z hz => nmOf_z hb hz] at h
      exact h
    have hse : (nm seen).isEmpty = (nms (chs zs) sp).isEmpty := by
      have := hp.length_eq
      cases h1 : nm seen <;> cases h2 : nms (chs zs) sp <;> first | rfl | (rw [h1, h2] at this; simp at this)
    rw [hse, hp.length_eq]
    refine ⟨mkR 31 [(5, .slc (nms (chs zs) sp).isEmpty 3 1 0 (nms (chs zs) sp).length none)], _, ?_, rfl, rfl, rfl⟩
    refine Weak.trans (Weak.bagged (id := 3) (es := 1) (rs := rowsS (nms (chs zs) sp)) rfl (hp.map _)) ?_
    refine Weak.trans (Weak.kill (id := 4) rfl) (Weak.regs ?_)
    exact keepR_imp (keepM 31 [5]) _
  · rintro seen rg σ ⟨h1, h2, h3, rfl, rfl⟩
    have hlen : seen.length ≤ 1000 := Nat.le_trans (nodup_le h1 h2) (by simpa using hl)
    refine ⟨4, 1, 1, k, true, hideE β (entsOf (chs zs)), bths zs, rfl, rfl, rfl, (by show 15 < 31; decide), fun b hb => hb, fun b hb1 hb2 => ?_, fun hall => ?_⟩
    · obtain ⟨z, hz, rfl⟩ := List.mem_map.1 hb1
      have hnm : nm (seen ++ [z.2]) = nm seen ++ nmOf zs sp z.2 := by simp [nm]
      have hIn : (seen ++ [z.2]).Nodup ∧ ∀ b ∈ seen ++ [z.2], b ∈ bths zs := ⟨snoc_nodup h1 hb2, fun x hx => by
        rcases List.mem_append.1 hx with hx | hx
        · exact h2 x hx
        · simp at hx; subst hx; exact hb1⟩
      have hcl : (rowsS (nm seen)).length = (nm seen).length := by simp
      have := chB_wp β (entsOf (chs zs)) off (bths zs) (seen ++ [z.2]) k (β z.1.p) sp z.1.s z.1.c (nm seen).isEmpty (rowsS (nm seen)) (Q := fun e rg σ => (e = .normal ∧ I (seen ++ [z.2]) rg σ) ∨ (e ≠ .normal ∧ PO e rg σ)) (by
        unfold chB_T
        rw [entV_z hb hz, txeq]
        refine ⟨rfl, rfl, fun hd => ⟨decide_eq_true (by rw [hcl]; omega), .inl ⟨rfl, hIn.1, hIn.2, ?_, ?_, ?_⟩⟩, fun hd => .inl ⟨rfl, hIn.1, hIn.2, ?_, ?_, ?_⟩⟩
        · rw [hnm, nmOf_z hb hz, if_pos (of_decide_eq_true hd)]; simp; omega
        · have he : ∀ l : List ByteArray, (l ++ [z.1.c]).isEmpty = false := fun l => by cases l <;> rfl
          rw [hnm, nmOf_z hb hz, if_pos (of_decide_eq_true hd), hcl, he]; simp
        · rw [hnm, nmOf_z hb hz, if_pos (of_decide_eq_true hd)]; simp
        · rw [hnm, nmOf_z hb hz, if_neg (of_decide_eq_false hd)]; simp; omega
        · rw [hnm, nmOf_z hb hz, if_neg (of_decide_eq_false hd), hcl]; simp
        · rw [hnm, nmOf_z hb hz, if_neg (of_decide_eq_false hd)]; simp)
      rw [hcl] at this
      exact RunD.of this
    · have := chX_wp β (entsOf (chs zs)) off (bths zs) seen k sp (nm seen).isEmpty (rowsS (nm seen)) (Q := fun e rg σ => e ≠ .normal ∧ e = .exit 0 ∧ ∃ seen, seen.Nodup ∧ (∀ b ∈ seen, b ∈ bths zs) ∧ (∀ b ∈ bths zs, b ∈ seen) ∧ rg = RH sp (nm seen).isEmpty (nm seen).length ∧ σ = A3 β (entsOf (chs zs)) off (bths zs) k ++ [.rows true 1 (rowsS (nm seen)), .miter (some 1) k seen k]) (by
        unfold chX_T
        exact ⟨by simp, rfl, seen, h1, h2, hall, by simp, rfl⟩)
      simp only [List.length_map] at this
      exact RunD.of this
theorem chans3 (β : Nat → Nat) (cs : List Ch) (offs : List ByteArray) (sp : ByteArray) (vs : List ByteArray) (hp : vs.Perm (nms cs sp)) (hs : (vs.map fun u => u.data.toList).Pairwise (fun x y => x ≤ y)) (hl : cs.length ≤ 1000) :
    FOk Tryd.prog 19 [.ptr 0 2 0 0, .str sp] (H3 (hideE β (entsOf cs)) (gms offs)) (.fsl vs.isEmpty 1 (rowsS vs) none) (H3 (hideE β (entsOf cs)) (gms offs)) := by
  refine mqPre (id := 1) ?_ rfl
  refine FOk.born (id := 1) (p := true) (ents := hideE β (entsOf cs)) rfl fun bs k hb hlb => ?_
  have hlb : bs.length = cs.length := by rw [hlb]; simp [hideE, entsOf]
  obtain ⟨zs, hz1, hz2⟩ : ∃ zs : Zs, chs zs = cs ∧ bths zs = bs := ⟨cs.zip bs, List.map_fst_zip (by omega), List.map_snd_zip (by omega)⟩
  subst hz1; subst hz2
  have hn1 : (nms (chs zs) sp).length ≤ 1000 := by
    refine Nat.le_trans ?_ hl
    rw [List.length_map]
    exact List.length_filter_le _ _
  have hsort : FOk Tryd.prog 33 [.slc (nms (chs zs) sp).isEmpty 0 1 0 (nms (chs zs) sp).length none] [.bag 1 (rowsS (nms (chs zs) sp))] (.tuple []) [.rows true 1 (rowsS vs)] := by
    cases hq : nms (chs zs) sp with
    | nil =>
      rw [hq] at hp
      obtain rfl : vs = [] := List.Perm.eq_nil hp
      exact sort0
    | cons u us =>
      rw [hq] at hp hn1
      exact FOk.sortBag sort_ok (u :: us) vs hp hs (by simp) (by simp at hn1 ⊢; omega)
  have h := FOk.wp (v := .slc (nms (chs zs) sp).isEmpty 3 1 0 (nms (chs zs) sp).length none) (σ' := A3 β (entsOf (chs zs)) (gms offs) (bths zs) k ++ [.rows true 1 (rowsS vs)]) (chF_wp β (entsOf (chs zs)) (gms offs) (bths zs) k (nms (chs zs) sp).length sp (nms (chs zs) sp).isEmpty (nms (chs zs) sp) vs (Q := fun r σ => r = _ ∧ σ = _) (by
    unfold chF_T
    exact ⟨FOk.wp (gv3n_wp β _ _ _ _ ⟨rfl, rfl⟩), ch_loop hb.nodup (gms offs) k sp (by simpa using hl), hsort, rfl, rfl⟩))
  have hvl : (nms (chs zs) sp).length = (rowsS vs).length := by rw [← hp.length_eq]; simp
  have hve : (nms (chs zs) sp).isEmpty = vs.isEmpty := by
    have := hp.length_eq
    cases h1 : nms (chs zs) sp <;> cases vs <;> first | rfl | (rw [h1] at this; simp at this)
  rw [hvl, hve] at h
  have h2 := FOk.fsl (σ2 := A3 β (entsOf (chs zs)) (gms offs) (bths zs) k) h rfl rfl rfl
  exact mqPost (id := 1) (h2.unborn (id := 1) rfl) rfl (hide_cl β _)
theorem chansT {T : AState} {m : List Mo} {offs : List ByteArray} (h : MX T m offs) (sp : ByteArray) (vs : List ByteArray) (hp : vs.Perm ((m.filter fun x => decide (x.s = sp)).map (·.c))) (hs : (vs.map fun u => u.data.toList).Pairwise (fun x y => x ≤ y)) (hl : m.length ≤ 1000) :
    ∃ T', MX T' m offs ∧ FOk Tryd.prog 19 [.ptr 0 2 0 0, .str sp] [.gh T] (.fsl vs.isEmpty 1 (rowsS vs) none) [.gh T'] := by
  obtain ⟨cs, rfl, hM, hb⟩ := h.ex
  have hp' : vs.Perm (nms cs sp) := by
    rw [List.filter_map, List.map_map] at hp
    exact hp
  obtain ⟨T', h1, h2⟩ := hM.same3 (f := 19) (rest := [.str sp]) (v := .fsl vs.isEmpty 1 (rowsS vs) none) rfl rfl fun β => chans3 β cs offs sp vs hp' hs (by simpa using hl)
  exact ⟨T', ⟨cs, rfl, h1, hb⟩, h2⟩
end Go.MN
end

section
set_option linter.unusedVariables false
set_option linter.unusedSimpArgs false
set_option linter.unusedSectionVars false
set_option maxRecDepth 100000
namespace Go.MN
open Go Go.Abs Go.Proofs
theorem fslP {P : Program} {f : FuncId} {xs : List AVal} {σ σ' σ2 : AState} {b : Bool} {id es : Nat} {rs : List (List AVal)} {n : Int} (h : FOk P f xs σ (.tuple [.slc b id es 0 rs.length none, .int .i64 n]) σ') (hid : σ'.getD id .dead = .rows true es rs)
    (hh : (List.range σ2.length).map (fun j => (σ'.set id .dead)[j]?) = σ2.map fun o => some (renO (old (List.range σ2.length)) o))
    (ok : (okMove σ.length (List.range σ2.length) (σ'.set id .dead).length [.any] σ2 && (σ2.drop σ.length).all AObj.live) = true) :
    FOk P f xs σ (.tuple [.fsl b es rs none, .int .i64 n]) σ2 := by
  have h2 := h.freezeT (x := ([.fsl b es rs none, .int .i64 n], σ'.set id .dead, [decide (0 + rs.length ≤ rs.length) = true])) (by
    have h0 : objP σ' id = .rows true es rs := by unfold objP Abs.obj; rw [hid]; rfl
    have h1 : freezeA σ' (.slc b id es 0 rs.length none) = some (.fsl b es rs none, ⟨[.fsl b es rs none], σ'.set id .dead, [decide (0 + rs.length ≤ rs.length) = true]⟩) := by
      unfold freezeA freezeV
      simp [h0]
    have h3 : freezeA (σ'.set id .dead) (.int .i64 n) = some (.int .i64 n, ⟨[.int .i64 n], σ'.set id .dead, []⟩) := by
      unfold freezeA freezeV
      rfl
    unfold freezeAL
    rw [h1]
    simp only [Option.bind_some]
    unfold freezeAL
    rw [h3]
    rfl) (allP_of ⟨by simp, trivial⟩)
  refine h2.toN.move (List.range σ2.length) rfl hh ?_
  rw [Bool.and_eq_true] at ok ⊢
  refine ⟨?_, ok.2⟩
  have h1 := ok.1
  unfold okMove at h1 ⊢
  simp only [Bool.and_eq_true] at h1 ⊢
  exact ⟨⟨h1.1.1, by simp [inScopeL, inScope]⟩, h1.2⟩
theorem mem6_fz (pre post : Ents) (s c : ByteArray) (off : Ents) (us vs : List ByteArray) (f : Bool) (ps : List (List AVal)) (hk : keysOk (pre ++ post)) (hn : afind (ky s c) pre = none) (hp : vs.Perm us) (hs : (vs.map fun u => u.data.toList).Pairwise (fun x y => x ≤ y)) (hl : us.length ≤ 1000) :
    FOk Tryd.prog 16 [.ptr 0 2 0 0, .str s, .str c] (H6 pre post s c off (gms us) f ps) (.tuple [.fsl vs.isEmpty 1 (rowsS vs) none, .int .i64 0]) (H6 pre post s c off (gms us) f ps) := by
  have h := mem6_ok pre post s c off us vs f ps hk hn hp hs hl
  have hvl : us.length = (rowsS vs).length := by rw [← hp.length_eq]; simp
  have hve : us.isEmpty = vs.isEmpty := by
    have := hp.length_eq
    cases us <;> cases vs <;> first | rfl | simp at this
  rw [hvl, hve] at h
  exact fslP (id := 6) (σ2 := H6 pre post s c off (gms us) f ps) h rfl rfl rfl
theorem membersT {T : AState} {m1 m2 : List Mo} {k : Mo} {offs : List ByteArray} (h : MX T (m1 ++ [k] ++ m2) offs) (hn : noMo k.s k.c m1) (vs : List ByteArray) (hp : vs.Perm k.us) (hs : (vs.map fun u => u.data.toList).Pairwise (fun x y => x ≤ y)) (hl : k.us.length ≤ 1000) :
    ∃ T', MX T' (m1 ++ [k] ++ m2) offs ∧ FOk Tryd.prog 16 [.ptr 0 2 0 0, .str k.s, .str k.c] [.gh T] (.tuple [.fsl vs.isEmpty 1 (rowsS vs) none, .int .i64 0]) [.gh T'] := by
  obtain ⟨cs1, x, cs2, rfl, rfl, rfl, hM, hb⟩ := h.split
  obtain ⟨T', h1, h2⟩ := hM.step6 (f := 16) (rest := [.str x.s, .str x.c]) (v := .tuple [.fsl vs.isEmpty 1 (rowsS vs) none, .int .i64 0]) rfl rfl x cs1 cs2 (fun y hy => hy) offs [] 5 (.rows true 2 x.ps) rfl rfl (.inl ⟨rfl, rfl, rfl, rfl⟩) hM.nd fun β =>
    mem6_fz (hideE β (entsOf cs1)) (hideE β (entsOf cs2)) x.s x.c (gms offs) x.us vs x.b x.ps (by rw [← hide_app, show entsOf cs1 ++ entsOf cs2 = entsOf (cs1 ++ cs2) by simp [entsOf]]; exact hide_keys β _) (afind_none β _ _ cs1 (noMo_ch hn)) hp hs hl
  exact ⟨T', ⟨_, by simp, h1, hb⟩, h2⟩
theorem sorted_of (us : List ByteArray) : ∃ vs : List ByteArray, vs.Perm us ∧ (vs.map fun u => u.data.toList).Pairwise (fun x y => x ≤ y) := by
  refine ⟨us.mergeSort fun a b => decide (a.data.toList ≤ b.data.toList), List.mergeSort_perm _ _, ?_⟩
  rw [List.pairwise_map]
  have h := List.pairwise_mergeSort (le := fun a b : ByteArray => decide (a.data.toList ≤ b.data.toList)) (fun a b c h1 h2 => by simp at *; exact List.le_trans h1 h2) (fun a b => by simp; exact List.le_total _ _) us
  simpa using h
end Go.MN
end

section
set_option linter.unusedVariables false
set_option maxRecDepth 100000
namespace Go.MN
open Go Go.Abs Go.Proofs
abbrev tv : ByteArray := ⟨#[118]⟩
abbrev tstays : ByteArray := ⟨#[115, 116, 97, 121, 115]⟩
abbrev iqRH : Int → AVal := AVal.int IntKind.i64
abbrev bqRH : ByteArray := ByteArray.mk #[]
abbrev tlqRH : ByteArray → List UInt8 := ByteArray.toList
open Go.Abs.AVal (str agg ptr slc fsl tuple nilp)
open Go.Abs.Dec (br use)
open Go.Abs.AExit (normal)
open Go.Abs.AObj (mp mq dead)
open Go.Abs.AVal (bool tt map)
open Go.IntKind (u8 i64 u64)
open Go.Abs.AObj (gh)
abbrev rzRH : Bool → Nat → List (List AVal) → AObj := AObj.rows
noncomputable abbrev pgRH : Program := Tryd.prog
abbrev z0RH  : List AVal := [ptr 0 2 0 0, agg [iqRH 7, str bqRH, str bqRH, str (ByteArray.mk #[97, 110, 110]), str bqRH, str bqRH, str bqRH, iqRH 0, iqRH 0]]
abbrev z1RH  : List AVal := [ptr 0 2 0 0, agg [iqRH 2, str (ByteArray.mk #[118]), str (ByteArray.mk #[115, 116, 97, 121, 115]), str (ByteArray.mk #[97, 110, 110]), str bqRH, str bqRH, str bqRH, iqRH 0, iqRH 0]]
abbrev z2RH  : List AVal := [ptr 0 2 0 0, agg [iqRH 1, str (ByteArray.mk #[118]), str (ByteArray.mk #[115, 116, 97, 121, 115]), str bqRH, str bqRH, str bqRH, str bqRH, iqRH 0, iqRH 0]]
abbrev z3RH  : List AVal := [ptr 0 2 0 0, agg [iqRH 6, str (ByteArray.mk #[119]), str bqRH, str bqRH, str bqRH, str bqRH, str bqRH, iqRH 0, iqRH 0]]
abbrev z4RH (ws : List (List AVal)) (i : Int) : List AVal := [ptr 0 2 0 0, str (ByteArray.mk #[118]), str (AVal.toStr (List.getD (List.getD ws (Int.toNat i) []) 0 AVal.any))]
theorem stL_1 (n1 : Bool) (n2 : Bool) (xs : List (List AVal)) (ys : List (List AVal)) (i : Int)
    (h1 : (!tlqRH (AVal.toStr (List.getD (List.getD xs (Int.toNat i) []) 0 AVal.any)) == tlqRH (AVal.toStr (List.getD (List.getD ys (Int.toNat i) []) 0 AVal.any))) = false)
    (h2 : decide (Int.toNat i < List.length ys) = true)
    (h3 : areKinds [Kind.str] [List.getD (List.getD ys (Int.toNat i) []) 0 AVal.any] = true)
    (h4 : decide (0 ≤ i ∧ i < (↑(List.length ys) : Int)) = true)
    (h5 : decide (Int.toNat i < List.length xs) = true)
    (h6 : areKinds [Kind.str] [List.getD (List.getD xs (Int.toNat i) []) 0 AVal.any] = true)
    (h7 : decide (0 ≤ i ∧ i < (↑(List.length xs) : Int)) = true)
    (h8 : decide (i < (↑(List.length xs) : Int)) = true) :
    TripN pgRH 0 (loopNo Tryd.f18 0) (mkR 26 [(0, fsl n1 1 xs none), (1, fsl n2 1 ys none), (5, iqRH i)]) ([]) (normal) (mkR 26 [(0, fsl n1 1 xs none), (1, fsl n2 1 ys none), (5, iqRH (IntKind.wrap i64 (i + 1)))]) ([]) :=
  evalT (st := St.mk (mkR 26 [(0, fsl n1 1 xs none), (1, fsl n2 1 ys none), (5, iqRH i)]) ([]) ([br true, br false]) []) (st' := St.mk (mkR 26 [(0, fsl n1 1 xs none), (1, fsl n2 1 ys none), (5, iqRH (IntKind.wrap i64 (i + 1))), (11, iqRH i), (12, fsl n1 1 xs none), (13, iqRH (↑(List.length xs) : Int)), (14, tt true), (15, iqRH i), (16, iqRH (IntKind.wrap i64 (i + 1))), (17, fsl n1 1 xs none), (18, iqRH i), (19, AVal.fptr 1 xs (Int.toNat i) 0), (20, str (AVal.toStr (List.getD (List.getD xs (Int.toNat i) []) 0 AVal.any))), (21, fsl n2 1 ys none), (22, iqRH i), (23, AVal.fptr 1 ys (Int.toNat i) 0), (24, str (AVal.toStr (List.getD (List.getD ys (Int.toNat i) []) 0 AVal.any))), (25, tt false)]) ([]) ([]) ((_) :: (tr 4 ++ ((_) :: (tr 1 ++ ((_) :: (tr 2 ++ ((_) :: (tr 6 ++ ((_) :: (tr 1 ++ ((_) :: (tr 2 ++ ((_) :: (tr 5 ++ ((_) :: [])))))))))))))))) followed (by kernel_rfl) (allP_of ⟨h1, (trC 4 ⟨h2, (trC 1 ⟨h3, (trC 2 ⟨h4, (trC 6 ⟨h5, (trC 1 ⟨h6, (trC 2 ⟨h7, (trC 5 ⟨h8, trivial⟩)⟩)⟩)⟩)⟩)⟩)⟩)⟩) (keepM 26 [0, 1, 5]) ([]) (by kernel_rfl) (by kernel_rfl) (by kernel_rfl)

def stL_T (n1 : Bool) (n2 : Bool) (xs : List (List AVal)) (ys : List (List AVal)) (i : Int) (Q : AExit → Regs → AState → Prop) : Prop := (decide (i < (↑(List.length xs) : Int)) = true) ∧ (decide (0 ≤ i ∧ i < (↑(List.length xs) : Int)) = true) ∧ (areKinds [Kind.str] [List.getD (List.getD xs (Int.toNat i) []) 0 AVal.any] = true) ∧ (decide (Int.toNat i < List.length xs) = true) ∧ (decide (0 ≤ i ∧ i < (↑(List.length ys) : Int)) = true) ∧ (areKinds [Kind.str] [List.getD (List.getD ys (Int.toNat i) []) 0 AVal.any] = true) ∧ (decide (Int.toNat i < List.length ys) = true) ∧ ((!ByteArray.toList (AVal.toStr (List.getD (List.getD xs (Int.toNat i) []) 0 AVal.any)) == ByteArray.toList (AVal.toStr (List.getD (List.getD ys (Int.toNat i) []) 0 AVal.any))) = false) ∧ Q (AExit.normal) (mkR 26 [(0, AVal.fsl n1 1 xs none), (1, AVal.fsl n2 1 ys none), (5, AVal.int IntKind.i64 (IntKind.wrap IntKind.i64 (i + 1)))]) ([])
theorem stL_wp (n1 : Bool) (n2 : Bool) (xs : List (List AVal)) (ys : List (List AVal)) (i : Int) {Q : AExit → Regs → AState → Prop} (h : stL_T n1 n2 xs ys i Q) : ∃ e rg' σ', TripN pgRH 0 (loopNo Tryd.f18 0) (mkR 26 [(0, fsl n1 1 xs none), (1, fsl n2 1 ys none), (5, iqRH i)]) ([]) e rg' σ' ∧ Q e rg' σ' :=
  ⟨_, _, _, stL_1 n1 n2 xs ys i (h.2.2.2.2.2.2.2.1) (h.2.2.2.2.2.2.1) (h.2.2.2.2.2.1) (h.2.2.2.2.1) (h.2.2.2.1) (h.2.2.1) (h.2.1) (h.1), h.2.2.2.2.2.2.2.2⟩


theorem stE_1 (n1 : Bool) (n2 : Bool) (xs : List (List AVal)) (ys : List (List AVal)) (i : Int)
    (h1 : decide (i < (↑(List.length xs) : Int)) = false) :
    TripN pgRH 0 (loopNo Tryd.f18 0) (mkR 26 [(0, fsl n1 1 xs none), (1, fsl n2 1 ys none), (5, iqRH i)]) ([]) (AExit.exit 0) (mkR 26 [(0, fsl n1 1 xs none), (1, fsl n2 1 ys none), (5, iqRH i)]) ([]) :=
  evalT (st := St.mk (mkR 26 [(0, fsl n1 1 xs none), (1, fsl n2 1 ys none), (5, iqRH i)]) ([]) ([br false]) []) (st' := St.mk (mkR 26 [(0, fsl n1 1 xs none), (1, fsl n2 1 ys none), (5, iqRH i), (11, iqRH i), (12, fsl n1 1 xs none), (13, iqRH (↑(List.length xs) : Int)), (14, tt false)]) ([]) ([]) ((_) :: [])) followed (by kernel_rfl) (allP_of ⟨h1, trivial⟩) (keepM 26 [0, 1, 5]) ([]) (by kernel_rfl) (by kernel_rfl) (by kernel_rfl)

def stE_T (n1 : Bool) (n2 : Bool) (xs : List (List AVal)) (ys : List (List AVal)) (i : Int) (Q : AExit → Regs → AState → Prop) : Prop := (decide (i < (↑(List.length xs) : Int)) = false) ∧ Q (AExit.exit 0) (mkR 26 [(0, AVal.fsl n1 1 xs none), (1, AVal.fsl n2 1 ys none), (5, AVal.int IntKind.i64 i)]) ([])
theorem stE_wp (n1 : Bool) (n2 : Bool) (xs : List (List AVal)) (ys : List (List AVal)) (i : Int) {Q : AExit → Regs → AState → Prop} (h : stE_T n1 n2 xs ys i Q) : ∃ e rg' σ', TripN pgRH 0 (loopNo Tryd.f18 0) (mkR 26 [(0, fsl n1 1 xs none), (1, fsl n2 1 ys none), (5, iqRH i)]) ([]) e rg' σ' ∧ Q e rg' σ' :=
  ⟨_, _, _, stE_1 n1 n2 xs ys i (h.1), h.2⟩


theorem stF_1 (n1 : Bool) (n2 : Bool) (xs : List (List AVal)) (ys : List (List AVal)) (j : Int)
    (h1 : TripN pgRH 0 (Code.loop (loopNo Tryd.f18 0)) (mkR 26 [(0, fsl n1 1 xs none), (1, fsl n2 1 ys none), (5, iqRH 0)]) [] (AExit.exit 0) (mkR 26 []) [])
    (h2 : ((↑(List.length xs) : Int) != (↑(List.length ys) : Int)) = false) :
    FOk pgRH 18 ([fsl n1 1 xs none, fsl n2 1 ys none]) ([]) (bool true) ([]) :=
  (evalF_ok followed Tryd.func18 (by kernel_rfl) (show evalF pgRH Tryd.f18 ([fsl n1 1 xs none, fsl n2 1 ys none]) ([]) ([br false, Dec.compact (keepM 26 [0, 1, 5]) [], Dec.loop (AExit.exit 0) (mkR 26 []) []]) = .ok (FRes.mk (bool true) ([]) ((Owed.loop (owed pgRH 0) (loopNo Tryd.f18 0) (mkR 26 [(0, fsl n1 1 xs none), (1, fsl n2 1 ys none), (5, iqRH 0)]) [] (AExit.exit 0) (mkR 26 []) []) :: ((_) :: []))) by kernel_rfl) (allP_of ⟨h1, ⟨h2, trivial⟩⟩)).move ([]) (by kernel_rfl) (by kernel_rfl) (by kernel_rfl)

def stF_T (n1 : Bool) (n2 : Bool) (xs : List (List AVal)) (ys : List (List AVal)) (j : Int) (Q : AVal → AState → Prop) : Prop := (((↑(List.length xs) : Int) != (↑(List.length ys) : Int)) = false) ∧ (TripN Tryd.prog 0 (Code.loop (loopNo Tryd.f18 0)) (mkR 26 [(0, AVal.fsl n1 1 xs none), (1, AVal.fsl n2 1 ys none), (5, AVal.int IntKind.i64 0)]) [] (AExit.exit 0) (mkR 26 []) []) ∧ Q (AVal.bool true) ([])
theorem stF_wp (n1 : Bool) (n2 : Bool) (xs : List (List AVal)) (ys : List (List AVal)) (j : Int) {Q : AVal → AState → Prop} (h : stF_T n1 n2 xs ys j Q) : ∃ r σ', FOk pgRH 18 ([fsl n1 1 xs none, fsl n2 1 ys none]) ([]) r σ' ∧ Q r σ' :=
  ⟨_, _, stF_1 n1 n2 xs ys j (h.2.1) (h.1), h.2.2⟩


theorem inL_1 (n1 : Bool) (xs : List (List AVal)) (u : ByteArray) (i : Int)
    (h1 : (tlqRH (AVal.toStr (List.getD (List.getD xs (Int.toNat i) []) 0 AVal.any)) == tlqRH u) = false)
    (h2 : decide (Int.toNat i < List.length xs) = true)
    (h3 : areKinds [Kind.str] [List.getD (List.getD xs (Int.toNat i) []) 0 AVal.any] = true)
    (h4 : decide (0 ≤ i ∧ i < (↑(List.length xs) : Int)) = true)
    (h5 : decide (i < (↑(List.length xs) : Int)) = true) :
    TripN pgRH 0 (loopNo Tryd.f20 0) (mkR 18 [(0, fsl n1 1 xs none), (1, str u), (5, iqRH i)]) ([]) (normal) (mkR 18 [(0, fsl n1 1 xs none), (1, str u), (5, iqRH (IntKind.wrap i64 (i + 1)))]) ([]) :=
  evalT (st := St.mk (mkR 18 [(0, fsl n1 1 xs none), (1, str u), (5, iqRH i)]) ([]) ([br true, br false]) []) (st' := St.mk (mkR 18 [(0, fsl n1 1 xs none), (1, str u), (5, iqRH (IntKind.wrap i64 (i + 1))), (6, iqRH i), (7, fsl n1 1 xs none), (8, iqRH (↑(List.length xs) : Int)), (9, tt true), (10, iqRH i), (11, iqRH (IntKind.wrap i64 (i + 1))), (12, fsl n1 1 xs none), (13, iqRH i), (14, AVal.fptr 1 xs (Int.toNat i) 0), (15, str (AVal.toStr (List.getD (List.getD xs (Int.toNat i) []) 0 AVal.any))), (16, str u), (17, tt false)]) ([]) ([]) ((_) :: ((_) :: (tr 1 ++ ((_) :: ((_) :: ((_) :: []))))))) followed (by kernel_rfl) (allP_of ⟨h1, ⟨h2, (trC 1 ⟨h3, ⟨h4, ⟨h5, trivial⟩⟩⟩)⟩⟩) (keepM 18 [0, 1, 5]) ([]) (by kernel_rfl) (by kernel_rfl) (by kernel_rfl)

def inL_T (n1 : Bool) (xs : List (List AVal)) (u : ByteArray) (i : Int) (Q : AExit → Regs → AState → Prop) : Prop := (decide (i < (↑(List.length xs) : Int)) = true) ∧ (decide (0 ≤ i ∧ i < (↑(List.length xs) : Int)) = true) ∧ (areKinds [Kind.str] [List.getD (List.getD xs (Int.toNat i) []) 0 AVal.any] = true) ∧ (decide (Int.toNat i < List.length xs) = true) ∧ ((ByteArray.toList (AVal.toStr (List.getD (List.getD xs (Int.toNat i) []) 0 AVal.any)) == ByteArray.toList u) = false) ∧ Q (AExit.normal) (mkR 18 [(0, AVal.fsl n1 1 xs none), (1, AVal.str u), (5, AVal.int IntKind.i64 (IntKind.wrap IntKind.i64 (i + 1)))]) ([])
theorem inL_wp (n1 : Bool) (xs : List (List AVal)) (u : ByteArray) (i : Int) {Q : AExit → Regs → AState → Prop} (h : inL_T n1 xs u i Q) : ∃ e rg' σ', TripN pgRH 0 (loopNo Tryd.f20 0) (mkR 18 [(0, fsl n1 1 xs none), (1, str u), (5, iqRH i)]) ([]) e rg' σ' ∧ Q e rg' σ' :=
  ⟨_, _, _, inL_1 n1 xs u i (h.2.2.2.2.1) (h.2.2.2.1) (h.2.2.1) (h.2.1) (h.1), h.2.2.2.2.2⟩


theorem inE_1 (n1 : Bool) (xs : List (List AVal)) (u : ByteArray) (i : Int)
    (h1 : decide (i < (↑(List.length xs) : Int)) = false) :
    TripN pgRH 0 (loopNo Tryd.f20 0) (mkR 18 [(0, fsl n1 1 xs none), (1, str u), (5, iqRH i)]) ([]) (AExit.exit 0) (mkR 18 [(0, fsl n1 1 xs none), (1, str u), (5, iqRH i)]) ([]) :=
  evalT (st := St.mk (mkR 18 [(0, fsl n1 1 xs none), (1, str u), (5, iqRH i)]) ([]) ([br false]) []) (st' := St.mk (mkR 18 [(0, fsl n1 1 xs none), (1, str u), (5, iqRH i), (6, iqRH i), (7, fsl n1 1 xs none), (8, iqRH (↑(List.length xs) : Int)), (9, tt false)]) ([]) ([]) ((_) :: [])) followed (by kernel_rfl) (allP_of ⟨h1, trivial⟩) (keepM 18 [0, 1, 5]) ([]) (by kernel_rfl) (by kernel_rfl) (by kernel_rfl)

def inE_T (n1 : Bool) (xs : List (List AVal)) (u : ByteArray) (i : Int) (Q : AExit → Regs → AState → Prop) : Prop := (decide (i < (↑(List.length xs) : Int)) = false) ∧ Q (AExit.exit 0) (mkR 18 [(0, AVal.fsl n1 1 xs none), (1, AVal.str u), (5, AVal.int IntKind.i64 i)]) ([])
theorem inE_wp (n1 : Bool) (xs : List (List AVal)) (u : ByteArray) (i : Int) {Q : AExit → Regs → AState → Prop} (h : inE_T n1 xs u i Q) : ∃ e rg' σ', TripN pgRH 0 (loopNo Tryd.f20 0) (mkR 18 [(0, fsl n1 1 xs none), (1, str u), (5, iqRH i)]) ([]) e rg' σ' ∧ Q e rg' σ' :=
  ⟨_, _, _, inE_1 n1 xs u i (h.1), h.2⟩


theorem inF_1 (n1 : Bool) (xs : List (List AVal)) (u : ByteArray) (j : Int)
    (h1 : TripN pgRH 0 (Code.loop (loopNo Tryd.f20 0)) (mkR 18 [(0, fsl n1 1 xs none), (1, str u), (5, iqRH 0)]) [] (AExit.exit 0) (mkR 18 []) []) :
    FOk pgRH 20 ([fsl n1 1 xs none, str u]) ([]) (bool false) ([]) :=
  (evalF_ok followed Tryd.func20 (by kernel_rfl) (show evalF pgRH Tryd.f20 ([fsl n1 1 xs none, str u]) ([]) ([Dec.compact (keepM 18 [0, 1, 5]) [], Dec.loop (AExit.exit 0) (mkR 18 []) []]) = .ok (FRes.mk (bool false) ([]) ((Owed.loop (owed pgRH 0) (loopNo Tryd.f20 0) (mkR 18 [(0, fsl n1 1 xs none), (1, str u), (5, iqRH 0)]) [] (AExit.exit 0) (mkR 18 []) []) :: [])) by kernel_rfl) (allP_of ⟨h1, trivial⟩)).move ([]) (by kernel_rfl) (by kernel_rfl) (by kernel_rfl)

def inF_T (n1 : Bool) (xs : List (List AVal)) (u : ByteArray) (j : Int) (Q : AVal → AState → Prop) : Prop := (TripN Tryd.prog 0 (Code.loop (loopNo Tryd.f20 0)) (mkR 18 [(0, AVal.fsl n1 1 xs none), (1, AVal.str u), (5, AVal.int IntKind.i64 0)]) [] (AExit.exit 0) (mkR 18 []) []) ∧ Q (AVal.bool false) ([])
theorem inF_wp (n1 : Bool) (xs : List (List AVal)) (u : ByteArray) (j : Int) {Q : AVal → AState → Prop} (h : inF_T n1 xs u j Q) : ∃ r σ', FOk pgRH 20 ([fsl n1 1 xs none, str u]) ([]) r σ' ∧ Q r σ' :=
  ⟨_, _, inF_1 n1 xs u j (h.1), h.2⟩


theorem enB_1 (nb : Bool) (rows : List (List AVal)) (i : Int) (T : AState) (T2 : AState) (e : Int) (a : Int) (nl : Bool) (qs : List (List AVal))
    (h1 : FOk pgRH 13 [ptr 0 2 0 0, agg (og rows i)] [gh T] (agg [iqRH e, iqRH a, fsl nl 2 qs none]) [gh T2])
    (h2 : decide (Int.toNat i < List.length rows) = true)
    (h3 : areKinds kks (oc rows i) = true)
    (h4 : decide (0 ≤ i ∧ i < (↑(List.length rows) : Int)) = true)
    (h5 : decide (i < 100) = true)
    (h6 : decide (i < (↑(List.length rows) : Int)) = true) :
    TripN pgRH 0 (loopNo Tryd.f9 0) (mkR 96 [(0, fsl nb 9 rows none), (3, ptr 0 2 0 0), (4, iqRH i)]) ([gh T]) (normal) (mkR 96 [(0, fsl nb 9 rows none), (3, ptr 0 2 0 0), (4, iqRH (IntKind.wrap i64 (i + 1)))]) ([gh T2]) :=
  evalT (st := St.mk (mkR 96 [(0, fsl nb 9 rows none), (3, ptr 0 2 0 0), (4, iqRH i)]) ([gh T]) ([br true, br true, use [0] [ptr 0 2 0 0, agg (og rows i)] [gh T] (rep e a (fsl nl 2 qs none)) [gh T2]]) []) (st' := St.mk (mkR 96 [(0, fsl nb 9 rows none), (3, ptr 0 2 0 0), (4, iqRH (IntKind.wrap i64 (i + 1))), (15, iqRH i), (16, fsl nb 9 rows none), (17, iqRH (↑(List.length rows) : Int)), (18, bool (decide (i < (↑(List.length rows) : Int)))), (19, tt true), (20, iqRH i), (21, bool (decide (i < 100))), (22, tt true), (23, iqRH i), (24, iqRH (IntKind.wrap i64 (i + 1))), (25, ptr 0 2 0 0), (26, fsl nb 9 rows none), (27, iqRH i), (28, AVal.fptr 9 rows (Int.toNat i) 0), (29, agg (og rows i)), (30, agg [iqRH e, iqRH a, fsl nl 2 qs none])]) ([gh T2]) ([]) ((Owed.use (owed pgRH 0) 13 [0] [ptr 0 2 0 0, agg (og rows i)] [gh T] [ptr 0 2 0 0, agg (og rows i)] [gh T] (agg [iqRH e, iqRH a, fsl nl 2 qs none]) [gh T2]) :: ((_) :: (tr 1 ++ ((_) :: ((_) :: ((_) :: ((_) :: [])))))))) followed (by kernel_rfl) (allP_of ⟨⟨h1, rfl, rfl, rfl⟩, ⟨h2, (trC 1 ⟨h3, ⟨h4, ⟨h5, ⟨h6, trivial⟩⟩⟩⟩)⟩⟩) (keepM 96 [0, 3, 4]) ([0]) (by kernel_rfl) (by kernel_rfl) (by kernel_rfl)

def enB_T (nb : Bool) (rows : List (List AVal)) (i : Int) (T : AState) (T2 : AState) (e : Int) (a : Int) (nl : Bool) (qs : List (List AVal)) (Q : AExit → Regs → AState → Prop) : Prop := (decide (i < (↑(List.length rows) : Int)) = true) ∧ (decide (i < 100) = true) ∧ (decide (0 ≤ i ∧ i < (↑(List.length rows) : Int)) = true) ∧ (areKinds [Kind.int IntKind.i64, Kind.str, Kind.str, Kind.str, Kind.str, Kind.str, Kind.str, Kind.int IntKind.i64, Kind.int IntKind.i64] [List.getD (List.getD rows (Int.toNat i) []) 0 AVal.any, List.getD (List.getD rows (Int.toNat i) []) 1 AVal.any, List.getD (List.getD rows (Int.toNat i) []) 2 AVal.any, List.getD (List.getD rows (Int.toNat i) []) 3 AVal.any, List.getD (List.getD rows (Int.toNat i) []) 4 AVal.any, List.getD (List.getD rows (Int.toNat i) []) 5 AVal.any, List.getD (List.getD rows (Int.toNat i) []) 6 AVal.any, List.getD (List.getD rows (Int.toNat i) []) 7 AVal.any, List.getD (List.getD rows (Int.toNat i) []) 8 AVal.any] = true) ∧ (decide (Int.toNat i < List.length rows) = true) ∧ (FOk Tryd.prog 13 [AVal.ptr 0 2 0 0, AVal.agg [AVal.int IntKind.i64 (AVal.toInt (List.getD (List.getD rows (Int.toNat i) []) 0 AVal.any)), AVal.str (AVal.toStr (List.getD (List.getD rows (Int.toNat i) []) 1 AVal.any)), AVal.str (AVal.toStr (List.getD (List.getD rows (Int.toNat i) []) 2 AVal.any)), AVal.str (AVal.toStr (List.getD (List.getD rows (Int.toNat i) []) 3 AVal.any)), AVal.str (AVal.toStr (List.getD (List.getD rows (Int.toNat i) []) 4 AVal.any)), AVal.str (AVal.toStr (List.getD (List.getD rows (Int.toNat i) []) 5 AVal.any)), AVal.str (AVal.toStr (List.getD (List.getD rows (Int.toNat i) []) 6 AVal.any)), AVal.int IntKind.i64 (AVal.toInt (List.getD (List.getD rows (Int.toNat i) []) 7 AVal.any)), AVal.int IntKind.i64 (AVal.toInt (List.getD (List.getD rows (Int.toNat i) []) 8 AVal.any))]] [AObj.gh T] (AVal.agg [AVal.int IntKind.i64 e, AVal.int IntKind.i64 a, AVal.fsl nl 2 qs none]) [AObj.gh T2]) ∧ Q (AExit.normal) (mkR 96 [(0, AVal.fsl nb 9 rows none), (3, AVal.ptr 0 2 0 0), (4, AVal.int IntKind.i64 (IntKind.wrap IntKind.i64 (i + 1)))]) ([AObj.gh T2])
theorem enB_wp (nb : Bool) (rows : List (List AVal)) (i : Int) (T : AState) (T2 : AState) (e : Int) (a : Int) (nl : Bool) (qs : List (List AVal)) {Q : AExit → Regs → AState → Prop} (h : enB_T nb rows i T T2 e a nl qs Q) : ∃ e rg' σ', TripN pgRH 0 (loopNo Tryd.f9 0) (mkR 96 [(0, fsl nb 9 rows none), (3, ptr 0 2 0 0), (4, iqRH i)]) ([gh T]) e rg' σ' ∧ Q e rg' σ' :=
  ⟨_, _, _, enB_1 nb rows i T T2 e a nl qs (h.2.2.2.2.2.1) (h.2.2.2.2.1) (h.2.2.2.1) (h.2.2.1) (h.2.1) (h.1), h.2.2.2.2.2.2⟩


theorem enX_1 (nb : Bool) (rows : List (List AVal)) (i : Int) (T : AState)
    (h1 : decide (i < (↑(List.length rows) : Int)) = false) :
    TripN pgRH 0 (loopNo Tryd.f9 0) (mkR 96 [(0, fsl nb 9 rows none), (3, ptr 0 2 0 0), (4, iqRH i)]) ([gh T]) (AExit.exit 0) (mkR 96 [(0, fsl nb 9 rows none), (3, ptr 0 2 0 0), (4, iqRH i)]) ([gh T]) :=
  evalT (st := St.mk (mkR 96 [(0, fsl nb 9 rows none), (3, ptr 0 2 0 0), (4, iqRH i)]) ([gh T]) ([br false]) []) (st' := St.mk (mkR 96 [(0, fsl nb 9 rows none), (3, ptr 0 2 0 0), (4, iqRH i), (15, iqRH i), (16, fsl nb 9 rows none), (17, iqRH (↑(List.length rows) : Int)), (18, bool (decide (i < (↑(List.length rows) : Int)))), (19, tt false), (20, tuple []), (21, tuple []), (22, tt false)]) ([gh T]) ([]) ((_) :: [])) followed (by kernel_rfl) (allP_of ⟨h1, trivial⟩) (keepM 96 [0, 3, 4]) ([0]) (by kernel_rfl) (by kernel_rfl) (by kernel_rfl)

def enX_T (nb : Bool) (rows : List (List AVal)) (i : Int) (T : AState) (Q : AExit → Regs → AState → Prop) : Prop := (decide (i < (↑(List.length rows) : Int)) = false) ∧ Q (AExit.exit 0) (mkR 96 [(0, AVal.fsl nb 9 rows none), (3, AVal.ptr 0 2 0 0), (4, AVal.int IntKind.i64 i)]) ([AObj.gh T])
theorem enX_wp (nb : Bool) (rows : List (List AVal)) (i : Int) (T : AState) {Q : AExit → Regs → AState → Prop} (h : enX_T nb rows i T Q) : ∃ e rg' σ', TripN pgRH 0 (loopNo Tryd.f9 0) (mkR 96 [(0, fsl nb 9 rows none), (3, ptr 0 2 0 0), (4, iqRH i)]) ([gh T]) e rg' σ' ∧ Q e rg' σ' :=
  ⟨_, _, _, enX_1 nb rows i T (h.1), h.2⟩


theorem enY_1 (nb : Bool) (rows : List (List AVal)) (i : Int) (T : AState)
    (h1 : decide (i < 100) = false)
    (h2 : decide (i < (↑(List.length rows) : Int)) = true) :
    TripN pgRH 0 (loopNo Tryd.f9 0) (mkR 96 [(0, fsl nb 9 rows none), (3, ptr 0 2 0 0), (4, iqRH i)]) ([gh T]) (AExit.exit 0) (mkR 96 [(0, fsl nb 9 rows none), (3, ptr 0 2 0 0), (4, iqRH i)]) ([gh T]) :=
  evalT (st := St.mk (mkR 96 [(0, fsl nb 9 rows none), (3, ptr 0 2 0 0), (4, iqRH i)]) ([gh T]) ([br true, br false]) []) (st' := St.mk (mkR 96 [(0, fsl nb 9 rows none), (3, ptr 0 2 0 0), (4, iqRH i), (15, iqRH i), (16, fsl nb 9 rows none), (17, iqRH (↑(List.length rows) : Int)), (18, bool (decide (i < (↑(List.length rows) : Int)))), (19, tt true), (20, iqRH i), (21, bool (decide (i < 100))), (22, tt false)]) ([gh T]) ([]) ((_) :: ((_) :: []))) followed (by kernel_rfl) (allP_of ⟨h1, ⟨h2, trivial⟩⟩) (keepM 96 [0, 3, 4]) ([0]) (by kernel_rfl) (by kernel_rfl) (by kernel_rfl)

def enY_T (nb : Bool) (rows : List (List AVal)) (i : Int) (T : AState) (Q : AExit → Regs → AState → Prop) : Prop := (decide (i < (↑(List.length rows) : Int)) = true) ∧ (decide (i < 100) = false) ∧ Q (AExit.exit 0) (mkR 96 [(0, AVal.fsl nb 9 rows none), (3, AVal.ptr 0 2 0 0), (4, AVal.int IntKind.i64 i)]) ([AObj.gh T])
theorem enY_wp (nb : Bool) (rows : List (List AVal)) (i : Int) (T : AState) {Q : AExit → Regs → AState → Prop} (h : enY_T nb rows i T Q) : ∃ e rg' σ', TripN pgRH 0 (loopNo Tryd.f9 0) (mkR 96 [(0, fsl nb 9 rows none), (3, ptr 0 2 0 0), (4, iqRH i)]) ([gh T]) e rg' σ' ∧ Q e rg' σ' :=
  ⟨_, _, _, enY_1 nb rows i T (h.2.1) (h.1), h.2.2⟩


theorem enM_1 (n1 : Bool) (ws : List (List AVal)) (i : Int) (T : AState) (T2 : AState) (nl : Bool) (ls : List (List AVal))
    (h1 : FOk pgRH 20 [fsl nl 1 ls none, str (ByteArray.mk #[97, 110, 110])] [] (bool false) [])
    (h2 : FOk pgRH 16 (z4RH ws i) [gh T] (tuple [fsl nl 1 ls none, iqRH 0]) [gh T2])
    (h3 : decide (Int.toNat i < List.length ws) = true)
    (h4 : areKinds [Kind.str] [List.getD (List.getD ws (Int.toNat i) []) 0 AVal.any] = true)
    (h5 : decide (0 ≤ i ∧ i < (↑(List.length ws) : Int)) = true)
    (h6 : decide (i < (↑(List.length ws) : Int)) = true) :
    TripN pgRH 0 (loopNo Tryd.f9 1) (mkR 96 [(3, ptr 0 2 0 0), (5, fsl n1 1 ws none), (7, iqRH i)]) ([gh T]) (normal) (mkR 96 [(3, ptr 0 2 0 0), (5, fsl n1 1 ws none), (7, iqRH (IntKind.wrap i64 (i + 1)))]) ([gh T2]) :=
  evalT (st := St.mk (mkR 96 [(3, ptr 0 2 0 0), (5, fsl n1 1 ws none), (7, iqRH i)]) ([gh T]) ([br true, use [0] (z4RH ws i) [gh T] (tuple [fsl nl 1 ls none, iqRH 0]) [gh T2], br false, use [] [fsl nl 1 ls none, str (ByteArray.mk #[97, 110, 110])] [] (bool false) [], br false]) []) (st' := St.mk (mkR 96 [(3, ptr 0 2 0 0), (5, fsl n1 1 ws none), (7, iqRH (IntKind.wrap i64 (i + 1))), (8, fsl nl 1 ls none), (9, iqRH 0), (58, iqRH i), (59, fsl n1 1 ws none), (60, iqRH (↑(List.length ws) : Int)), (61, tt true), (62, iqRH i), (63, iqRH (IntKind.wrap i64 (i + 1))), (64, tuple [fsl nl 1 ls none, iqRH 0]), (65, ptr 0 2 0 0), (66, fsl n1 1 ws none), (67, iqRH i), (68, AVal.fptr 1 ws (Int.toNat i) 0), (69, str (AVal.toStr (List.getD (List.getD ws (Int.toNat i) []) 0 AVal.any))), (70, tuple [fsl nl 1 ls none, iqRH 0]), (71, fsl nl 1 ls none), (72, iqRH 0), (73, iqRH 0), (74, bool false), (75, tt false), (76, fsl nl 1 ls none), (77, bool false), (78, tt false)]) ([gh T2]) ([]) ((false = false) :: ((Owed.use (owed pgRH 0) 20 [] [fsl nl 1 ls none, str (ByteArray.mk #[97, 110, 110])] [gh T2] [fsl nl 1 ls none, str (ByteArray.mk #[97, 110, 110])] [] (bool false) []) :: ((false = false) :: ((Owed.use (owed pgRH 0) 16 [0] (z4RH ws i) [gh T] (z4RH ws i) [gh T] (tuple [fsl nl 1 ls none, iqRH 0]) [gh T2]) :: ((_) :: (tr 1 ++ ((_) :: ((_) :: ((_) :: [])))))))))) followed (by kernel_rfl) (allP_of ⟨rfl, ⟨⟨h1, rfl, rfl, rfl⟩, ⟨rfl, ⟨⟨h2, rfl, rfl, rfl⟩, ⟨h3, (trC 1 ⟨h4, ⟨h5, ⟨h6, trivial⟩⟩⟩)⟩⟩⟩⟩⟩) (keepM 96 [3, 5, 7]) ([0]) (by kernel_rfl) (by kernel_rfl) (by kernel_rfl)

def enM_T (n1 : Bool) (ws : List (List AVal)) (i : Int) (T : AState) (T2 : AState) (nl : Bool) (ls : List (List AVal)) (Q : AExit → Regs → AState → Prop) : Prop := (decide (i < (↑(List.length ws) : Int)) = true) ∧ (decide (0 ≤ i ∧ i < (↑(List.length ws) : Int)) = true) ∧ (areKinds [Kind.str] [List.getD (List.getD ws (Int.toNat i) []) 0 AVal.any] = true) ∧ (decide (Int.toNat i < List.length ws) = true) ∧ (FOk Tryd.prog 16 [AVal.ptr 0 2 0 0, AVal.str (ByteArray.mk #[118]), AVal.str (AVal.toStr (List.getD (List.getD ws (Int.toNat i) []) 0 AVal.any))] [AObj.gh T] (AVal.tuple [AVal.fsl nl 1 ls none, AVal.int IntKind.i64 0]) [AObj.gh T2]) ∧ (FOk Tryd.prog 20 [AVal.fsl nl 1 ls none, AVal.str (ByteArray.mk #[97, 110, 110])] [] (AVal.bool false) []) ∧ Q (AExit.normal) (mkR 96 [(3, AVal.ptr 0 2 0 0), (5, AVal.fsl n1 1 ws none), (7, AVal.int IntKind.i64 (IntKind.wrap IntKind.i64 (i + 1)))]) ([AObj.gh T2])
theorem enM_wp (n1 : Bool) (ws : List (List AVal)) (i : Int) (T : AState) (T2 : AState) (nl : Bool) (ls : List (List AVal)) {Q : AExit → Regs → AState → Prop} (h : enM_T n1 ws i T T2 nl ls Q) : ∃ e rg' σ', TripN pgRH 0 (loopNo Tryd.f9 1) (mkR 96 [(3, ptr 0 2 0 0), (5, fsl n1 1 ws none), (7, iqRH i)]) ([gh T]) e rg' σ' ∧ Q e rg' σ' :=
  ⟨_, _, _, enM_1 n1 ws i T T2 nl ls (h.2.2.2.2.2.1) (h.2.2.2.2.1) (h.2.2.2.1) (h.2.2.1) (h.2.1) (h.1), h.2.2.2.2.2.2⟩


theorem enN_1 (n1 : Bool) (ws : List (List AVal)) (i : Int) (T : AState)
    (h1 : decide (i < (↑(List.length ws) : Int)) = false) :
    TripN pgRH 0 (loopNo Tryd.f9 1) (mkR 96 [(3, ptr 0 2 0 0), (5, fsl n1 1 ws none), (7, iqRH i)]) ([gh T]) (AExit.exit 2) (mkR 96 [(3, ptr 0 2 0 0), (5, fsl n1 1 ws none), (7, iqRH i)]) ([gh T]) :=
  evalT (st := St.mk (mkR 96 [(3, ptr 0 2 0 0), (5, fsl n1 1 ws none), (7, iqRH i)]) ([gh T]) ([br false]) []) (st' := St.mk (mkR 96 [(3, ptr 0 2 0 0), (5, fsl n1 1 ws none), (7, iqRH i), (58, iqRH i), (59, fsl n1 1 ws none), (60, iqRH (↑(List.length ws) : Int)), (61, tt false)]) ([gh T]) ([]) ((_) :: [])) followed (by kernel_rfl) (allP_of ⟨h1, trivial⟩) (keepM 96 [3, 5, 7]) ([0]) (by kernel_rfl) (by kernel_rfl) (by kernel_rfl)

def enN_T (n1 : Bool) (ws : List (List AVal)) (i : Int) (T : AState) (Q : AExit → Regs → AState → Prop) : Prop := (decide (i < (↑(List.length ws) : Int)) = false) ∧ Q (AExit.exit 2) (mkR 96 [(3, AVal.ptr 0 2 0 0), (5, AVal.fsl n1 1 ws none), (7, AVal.int IntKind.i64 i)]) ([AObj.gh T])
theorem enN_wp (n1 : Bool) (ws : List (List AVal)) (i : Int) (T : AState) {Q : AExit → Regs → AState → Prop} (h : enN_T n1 ws i T Q) : ∃ e rg' σ', TripN pgRH 0 (loopNo Tryd.f9 1) (mkR 96 [(3, ptr 0 2 0 0), (5, fsl n1 1 ws none), (7, iqRH i)]) ([gh T]) e rg' σ' ∧ Q e rg' σ' :=
  ⟨_, _, _, enN_1 n1 ws i T (h.1), h.2⟩


theorem en_1 (nb : Bool) (rows : List (List AVal)) (ws : List (List AVal)) (n1 : Bool) (n2 : Bool) (T0 : AState) (T1 : AState) (T2 : AState) (T3 : AState) (T4 : AState) (T5 : AState) (T6 : AState) (T7 : AState) (T8 : AState) (T9 : AState) (T10 : AState) (i : Int) (j : Int) (e : Int) (a : Int) (e2 : Int) (a2 : Int) (nl : Bool) (nl2 : Bool) (qs : List (List AVal)) (qs2 : List (List AVal))
    (h1 : FOk pgRH 14 [] [] (bool true) [])
    (h2 : FOk pgRH 13 (z0RH) [gh T9] (agg [iqRH 92, iqRH 0, fsl true 2 [] none]) [gh T10])
    (h3 : FOk pgRH 13 (z1RH) [gh T8] (agg [iqRH 92, iqRH 0, fsl true 2 [] none]) [gh T9])
    (h4 : TripN pgRH 0 (Code.loop (loopNo Tryd.f9 1)) (mkR 96 [(3, ptr 0 2 0 0), (5, fsl n1 1 ws none), (7, iqRH 0)]) [gh T7] (AExit.exit 2) (mkR 96 [(3, ptr 0 2 0 0)]) [gh T8])
    (h5 : FOk pgRH 13 (z0RH) [gh T6] (agg [iqRH e2, iqRH a2, fsl nl2 2 qs2 none]) [gh T7])
    (h6 : FOk pgRH 18 [fsl n1 1 ws none, fsl n1 1 ws none] [] (bool true) [])
    (h7 : FOk pgRH 19 [ptr 0 2 0 0, str (ByteArray.mk #[118])] [gh T5] (fsl n1 1 ws none) [gh T6])
    (h8 : FOk pgRH 19 [ptr 0 2 0 0, str (ByteArray.mk #[119])] [gh T4] (fsl true 1 [] none) [gh T5])
    (h9 : FOk pgRH 13 (z3RH) [gh T3] (agg [iqRH 0, iqRH 0, fsl true 2 [] none]) [gh T4])
    (h10 : FOk pgRH 19 [ptr 0 2 0 0, str (ByteArray.mk #[118])] [gh T2] (fsl n1 1 ws none) [gh T3])
    (h11 : FOk pgRH 13 (z2RH) [gh T1] (agg [iqRH e, iqRH a, fsl nl 2 qs none]) [gh T2])
    (h12 : TripN pgRH 0 (Code.loop (loopNo Tryd.f9 0)) (mkR 96 [(0, fsl nb 9 rows none), (3, ptr 0 2 0 0), (4, iqRH 0)]) [gh T0] (AExit.exit 0) (mkR 96 [(3, ptr 0 2 0 0)]) [gh T1])
    (h13 : FOk pgRH 12 [] [] (ptr 0 2 0 0) [gh T0]) :
    FOk pgRH 9 ([fsl nb 9 rows none]) ([]) (bool true) ([]) :=
  (evalF_ok followed Tryd.func9 (by kernel_rfl) (show evalF pgRH Tryd.f9 ([fsl nb 9 rows none]) ([]) ([use [] [] [] (ptr 0 2 0 0) [gh T0], br false, Dec.compact (keepM 96 [0, 3, 4]) [0], Dec.loop (AExit.exit 0) (mkR 96 [(3, ptr 0 2 0 0)]) [gh T1], use [0] (z2RH) [gh T1] (rep e a (fsl nl 2 qs none)) [gh T2], use [0] [ptr 0 2 0 0, str (ByteArray.mk #[118])] [gh T2] (fsl n1 1 ws none) [gh T3], use [0] (z3RH) [gh T3] (rep 0 0 nilps) [gh T4], br false, use [0] [ptr 0 2 0 0, str (ByteArray.mk #[119])] [gh T4] (fsl true 1 [] none) [gh T5], br false, use [0] [ptr 0 2 0 0, str (ByteArray.mk #[118])] [gh T5] (fsl n1 1 ws none) [gh T6], use [] [fsl n1 1 ws none, fsl n1 1 ws none] [] (bool true) [], br false, use [0] (z0RH) [gh T6] (rep e2 a2 (fsl nl2 2 qs2 none)) [gh T7], Dec.compact (keepM 96 [3, 5, 7]) [0], Dec.loop (AExit.exit 2) (mkR 96 [(3, ptr 0 2 0 0)]) [gh T8], use [0] (z1RH) [gh T8] (rep 92 0 nilps) [gh T9], use [0] (z0RH) [gh T9] (rep 92 0 nilps) [gh T10], br true, br true, use [] [] [] (bool true) []]) = .ok (FRes.mk (bool true) ([gh T10, rzRH false 3 [[iqRH 92, iqRH 0, fsl true 2 [] none]], rzRH false 3 [[iqRH 92, iqRH 0, fsl true 2 [] none]]]) ((Owed.use (owed pgRH 0) 14 [] [] [gh T10, rzRH false 3 [[iqRH 92, iqRH 0, fsl true 2 [] none]], rzRH false 3 [[iqRH 92, iqRH 0, fsl true 2 [] none]]] [] [] (bool true) []) :: (tr 8 ++ ((Owed.use (owed pgRH 0) 13 [0] (z0RH) [gh T9, rzRH false 3 [[iqRH 92, iqRH 0, fsl true 2 [] none]]] (z0RH) [gh T9] (agg [iqRH 92, iqRH 0, fsl true 2 [] none]) [gh T10]) :: (tr 2 ++ ((Owed.use (owed pgRH 0) 13 [0] (z1RH) [gh T8] (z1RH) [gh T8] (agg [iqRH 92, iqRH 0, fsl true 2 [] none]) [gh T9]) :: ((Owed.loop (owed pgRH 0) (loopNo Tryd.f9 1) (mkR 96 [(3, ptr 0 2 0 0), (5, fsl n1 1 ws none), (7, iqRH 0)]) [gh T7] (AExit.exit 2) (mkR 96 [(3, ptr 0 2 0 0)]) [gh T8]) :: ((Owed.use (owed pgRH 0) 13 [0] (z0RH) [gh T6, rzRH false 3 [[iqRH 0, iqRH 0, fsl true 2 [] none]]] (z0RH) [gh T6] (agg [iqRH e2, iqRH a2, fsl nl2 2 qs2 none]) [gh T7]) :: ((false = false) :: ((Owed.use (owed pgRH 0) 18 [] [fsl n1 1 ws none, fsl n1 1 ws none] [gh T6, rzRH false 3 [[iqRH 0, iqRH 0, fsl true 2 [] none]]] [fsl n1 1 ws none, fsl n1 1 ws none] [] (bool true) []) :: ((Owed.use (owed pgRH 0) 19 [0] [ptr 0 2 0 0, str (ByteArray.mk #[118])] [gh T5, rzRH false 3 [[iqRH 0, iqRH 0, fsl true 2 [] none]]] [ptr 0 2 0 0, str (ByteArray.mk #[118])] [gh T5] (fsl n1 1 ws none) [gh T6]) :: ((false = false) :: ((Owed.use (owed pgRH 0) 19 [0] [ptr 0 2 0 0, str (ByteArray.mk #[119])] [gh T4, rzRH false 3 [[iqRH 0, iqRH 0, fsl true 2 [] none]]] [ptr 0 2 0 0, str (ByteArray.mk #[119])] [gh T4] (fsl true 1 [] none) [gh T5]) :: ((false = false) :: (tr 4 ++ ((Owed.use (owed pgRH 0) 13 [0] (z3RH) [gh T3] (z3RH) [gh T3] (agg [iqRH 0, iqRH 0, fsl true 2 [] none]) [gh T4]) :: ((Owed.use (owed pgRH 0) 19 [0] [ptr 0 2 0 0, str (ByteArray.mk #[118])] [gh T2] [ptr 0 2 0 0, str (ByteArray.mk #[118])] [gh T2] (fsl n1 1 ws none) [gh T3]) :: ((Owed.use (owed pgRH 0) 13 [0] (z2RH) [gh T1] (z2RH) [gh T1] (agg [iqRH e, iqRH a, fsl nl 2 qs none]) [gh T2]) :: ((Owed.loop (owed pgRH 0) (loopNo Tryd.f9 0) (mkR 96 [(0, fsl nb 9 rows none), (3, ptr 0 2 0 0), (4, iqRH 0)]) [gh T0] (AExit.exit 0) (mkR 96 [(3, ptr 0 2 0 0)]) [gh T1]) :: ((false = false) :: ((Owed.use (owed pgRH 0) 12 [] [] [] [] [] (ptr 0 2 0 0) [gh T0]) :: []))))))))))))))))))))) by kernel_rfl) (allP_of ⟨⟨h1, rfl, rfl, rfl⟩, (trC 8 ⟨⟨h2, rfl, rfl, rfl⟩, (trC 2 ⟨⟨h3, rfl, rfl, rfl⟩, ⟨h4, ⟨⟨h5, rfl, rfl, rfl⟩, ⟨rfl, ⟨⟨h6, rfl, rfl, rfl⟩, ⟨⟨h7, rfl, rfl, rfl⟩, ⟨rfl, ⟨⟨h8, rfl, rfl, rfl⟩, ⟨rfl, (trC 4 ⟨⟨h9, rfl, rfl, rfl⟩, ⟨⟨h10, rfl, rfl, rfl⟩, ⟨⟨h11, rfl, rfl, rfl⟩, ⟨h12, ⟨rfl, ⟨⟨h13, rfl, rfl, rfl⟩, trivial⟩⟩⟩⟩⟩⟩)⟩⟩⟩⟩⟩⟩⟩⟩⟩)⟩)⟩)).move ([]) (by kernel_rfl) (by kernel_rfl) (by kernel_rfl)

def en_T (nb : Bool) (rows : List (List AVal)) (ws : List (List AVal)) (n1 : Bool) (n2 : Bool) (T0 : AState) (T1 : AState) (T2 : AState) (T3 : AState) (T4 : AState) (T5 : AState) (T6 : AState) (T7 : AState) (T8 : AState) (T9 : AState) (T10 : AState) (i : Int) (j : Int) (e : Int) (a : Int) (e2 : Int) (a2 : Int) (nl : Bool) (nl2 : Bool) (qs : List (List AVal)) (qs2 : List (List AVal)) (Q : AVal → AState → Prop) : Prop := (FOk Tryd.prog 12 [] [] (AVal.ptr 0 2 0 0) [AObj.gh T0]) ∧ (TripN Tryd.prog 0 (Code.loop (loopNo Tryd.f9 0)) (mkR 96 [(0, AVal.fsl nb 9 rows none), (3, AVal.ptr 0 2 0 0), (4, AVal.int IntKind.i64 0)]) [AObj.gh T0] (AExit.exit 0) (mkR 96 [(3, AVal.ptr 0 2 0 0)]) [AObj.gh T1]) ∧ (FOk Tryd.prog 13 [AVal.ptr 0 2 0 0, AVal.agg [AVal.int IntKind.i64 1, AVal.str (ByteArray.mk #[118]), AVal.str (ByteArray.mk #[115, 116, 97, 121, 115]), AVal.str (ByteArray.mk #[]), AVal.str (ByteArray.mk #[]), AVal.str (ByteArray.mk #[]), AVal.str (ByteArray.mk #[]), AVal.int IntKind.i64 0, AVal.int IntKind.i64 0]] [AObj.gh T1] (AVal.agg [AVal.int IntKind.i64 e, AVal.int IntKind.i64 a, AVal.fsl nl 2 qs none]) [AObj.gh T2]) ∧ (FOk Tryd.prog 19 [AVal.ptr 0 2 0 0, AVal.str (ByteArray.mk #[118])] [AObj.gh T2] (AVal.fsl n1 1 ws none) [AObj.gh T3]) ∧ (FOk Tryd.prog 13 [AVal.ptr 0 2 0 0, AVal.agg [AVal.int IntKind.i64 6, AVal.str (ByteArray.mk #[119]), AVal.str (ByteArray.mk #[]), AVal.str (ByteArray.mk #[]), AVal.str (ByteArray.mk #[]), AVal.str (ByteArray.mk #[]), AVal.str (ByteArray.mk #[]), AVal.int IntKind.i64 0, AVal.int IntKind.i64 0]] [AObj.gh T3] (AVal.agg [AVal.int IntKind.i64 0, AVal.int IntKind.i64 0, AVal.fsl true 2 [] none]) [AObj.gh T4]) ∧ (FOk Tryd.prog 19 [AVal.ptr 0 2 0 0, AVal.str (ByteArray.mk #[119])] [AObj.gh T4] (AVal.fsl true 1 [] none) [AObj.gh T5]) ∧ (FOk Tryd.prog 19 [AVal.ptr 0 2 0 0, AVal.str (ByteArray.mk #[118])] [AObj.gh T5] (AVal.fsl n1 1 ws none) [AObj.gh T6]) ∧ (FOk Tryd.prog 18 [AVal.fsl n1 1 ws none, AVal.fsl n1 1 ws none] [] (AVal.bool true) []) ∧ (FOk Tryd.prog 13 [AVal.ptr 0 2 0 0, AVal.agg [AVal.int IntKind.i64 7, AVal.str (ByteArray.mk #[]), AVal.str (ByteArray.mk #[]), AVal.str (ByteArray.mk #[97, 110, 110]), AVal.str (ByteArray.mk #[]), AVal.str (ByteArray.mk #[]), AVal.str (ByteArray.mk #[]), AVal.int IntKind.i64 0, AVal.int IntKind.i64 0]] [AObj.gh T6] (AVal.agg [AVal.int IntKind.i64 e2, AVal.int IntKind.i64 a2, AVal.fsl nl2 2 qs2 none]) [AObj.gh T7]) ∧ (TripN Tryd.prog 0 (Code.loop (loopNo Tryd.f9 1)) (mkR 96 [(3, AVal.ptr 0 2 0 0), (5, AVal.fsl n1 1 ws none), (7, AVal.int IntKind.i64 0)]) [AObj.gh T7] (AExit.exit 2) (mkR 96 [(3, AVal.ptr 0 2 0 0)]) [AObj.gh T8]) ∧ (FOk Tryd.prog 13 [AVal.ptr 0 2 0 0, AVal.agg [AVal.int IntKind.i64 2, AVal.str (ByteArray.mk #[118]), AVal.str (ByteArray.mk #[115, 116, 97, 121, 115]), AVal.str (ByteArray.mk #[97, 110, 110]), AVal.str (ByteArray.mk #[]), AVal.str (ByteArray.mk #[]), AVal.str (ByteArray.mk #[]), AVal.int IntKind.i64 0, AVal.int IntKind.i64 0]] [AObj.gh T8] (AVal.agg [AVal.int IntKind.i64 92, AVal.int IntKind.i64 0, AVal.fsl true 2 [] none]) [AObj.gh T9]) ∧ (FOk Tryd.prog 13 [AVal.ptr 0 2 0 0, AVal.agg [AVal.int IntKind.i64 7, AVal.str (ByteArray.mk #[]), AVal.str (ByteArray.mk #[]), AVal.str (ByteArray.mk #[97, 110, 110]), AVal.str (ByteArray.mk #[]), AVal.str (ByteArray.mk #[]), AVal.str (ByteArray.mk #[]), AVal.int IntKind.i64 0, AVal.int IntKind.i64 0]] [AObj.gh T9] (AVal.agg [AVal.int IntKind.i64 92, AVal.int IntKind.i64 0, AVal.fsl true 2 [] none]) [AObj.gh T10]) ∧ (FOk Tryd.prog 14 [] [] (AVal.bool true) []) ∧ Q (AVal.bool true) ([])
theorem en_wp (nb : Bool) (rows : List (List AVal)) (ws : List (List AVal)) (n1 : Bool) (n2 : Bool) (T0 : AState) (T1 : AState) (T2 : AState) (T3 : AState) (T4 : AState) (T5 : AState) (T6 : AState) (T7 : AState) (T8 : AState) (T9 : AState) (T10 : AState) (i : Int) (j : Int) (e : Int) (a : Int) (e2 : Int) (a2 : Int) (nl : Bool) (nl2 : Bool) (qs : List (List AVal)) (qs2 : List (List AVal)) {Q : AVal → AState → Prop} (h : en_T nb rows ws n1 n2 T0 T1 T2 T3 T4 T5 T6 T7 T8 T9 T10 i j e a e2 a2 nl nl2 qs qs2 Q) : ∃ r σ', FOk pgRH 9 ([fsl nb 9 rows none]) ([]) r σ' ∧ Q r σ' :=
  ⟨_, _, en_1 nb rows ws n1 n2 T0 T1 T2 T3 T4 T5 T6 T7 T8 T9 T10 i j e a e2 a2 nl nl2 qs qs2 (h.2.2.2.2.2.2.2.2.2.2.2.2.1) (h.2.2.2.2.2.2.2.2.2.2.2.1) (h.2.2.2.2.2.2.2.2.2.2.1) (h.2.2.2.2.2.2.2.2.2.1) (h.2.2.2.2.2.2.2.2.1) (h.2.2.2.2.2.2.2.1) (h.2.2.2.2.2.2.1) (h.2.2.2.2.2.1) (h.2.2.2.2.1) (h.2.2.2.1) (h.2.2.1) (h.2.1) (h.1), h.2.2.2.2.2.2.2.2.2.2.2.2.2⟩


end Go.MN
end

section
set_option linter.unusedVariables false
set_option linter.unusedSimpArgs false
set_option linter.unusedSectionVars false
set_option maxRecDepth 100000
namespace Go.MN
open Go Go.Abs Go.Proofs
theorem rowsS_get (l : List ByteArray) {i : Nat} (h : i < l.length) : (rowsS l).getD i [] = [.str l[i]] := by
  rw [List.getD_eq_getElem?_getD, List.getElem?_map, List.getElem?_eq_getElem h]; rfl
theorem same_ok (n : Bool) (l : List ByteArray) (hl : l.length ≤ 1000) : FOk Tryd.prog 18 [.fsl n 1 (rowsS l) none, .fsl n 1 (rowsS l) none] [] (.bool true) [] := by
  have r : ∀ (d i : Nat), i + d = l.length → LoopRun Tryd.prog 0 (loopNo Tryd.f18 0) (mkR 26 [(0, .fsl n 1 (rowsS l) none), (1, .fsl n 1 (rowsS l) none), (5, .int .i64 (i : Nat))]) [] (.exit 0) (mkR 26 []) [] := by
    intro d
    induction d with
    | zero =>
      intro i hi
      refine .done ((TripN.wp (rg' := mkR 26 [(0, .fsl n 1 (rowsS l) none), (1, .fsl n 1 (rowsS l) none), (5, .int .i64 (i : Nat))]) (σ' := []) (e := .exit 0) (stE_wp n n (rowsS l) (rowsS l) (i : Nat) ?_)).out ?_) (by simp)
      · unfold stE_T
        exact ⟨decide_eq_false (by simp; omega), rfl, rfl, rfl⟩
      · exact keepR_imp (keepM 26 []) _
    | succ d ih =>
      intro i hi
      have hil : i < l.length := by omega
      have w1 : IntKind.wrap .i64 ((i : Int) + 1) = ((i + 1 : Nat) : Int) := by rw [wrapS (by omega) (by omega)]; omega
      refine .more (TripN.wp (stL_wp n n (rowsS l) (rowsS l) (i : Nat) ?_)) (ih (i + 1) (by omega))
      unfold stL_T
      rw [w1, Int.toNat_natCast, rowsS_get l hil]
      exact ⟨decide_eq_true (by simp; omega), decide_eq_true (by simp; omega), rfl, decide_eq_true (by simp; omega), decide_eq_true (by simp; omega), rfl, decide_eq_true (by simp; omega), by simp, rfl, rfl, rfl⟩
  refine FOk.wp (stF_wp n n (rowsS l) (rowsS l) 0 ?_)
  unfold stF_T
  exact ⟨by simp, (r l.length 0 (by omega)).trip, rfl, rfl⟩
theorem in_no (n : Bool) (l : List ByteArray) (u : ByteArray) (hu : u ∉ l) (hl : l.length ≤ 1000) : FOk Tryd.prog 20 [.fsl n 1 (rowsS l) none, .str u] [] (.bool false) [] := by
  have r : ∀ (d i : Nat), i + d = l.length → LoopRun Tryd.prog 0 (loopNo Tryd.f20 0) (mkR 18 [(0, .fsl n 1 (rowsS l) none), (1, .str u), (5, .int .i64 (i : Nat))]) [] (.exit 0) (mkR 18 []) [] := by
    intro d
    induction d with
    | zero =>
      intro i hi
      refine .done ((TripN.wp (rg' := mkR 18 [(0, .fsl n 1 (rowsS l) none), (1, .str u), (5, .int .i64 (i : Nat))]) (σ' := []) (e := .exit 0) (inE_wp n (rowsS l) u (i : Nat) ?_)).out ?_) (by simp)
      · unfold inE_T
        exact ⟨decide_eq_false (by simp; omega), rfl, rfl, rfl⟩
      · exact keepR_imp (keepM 18 []) _
    | succ d ih =>
      intro i hi
      have hil : i < l.length := by omega
      have w1 : IntKind.wrap .i64 ((i : Int) + 1) = ((i + 1 : Nat) : Int) := by rw [wrapS (by omega) (by omega)]; omega
      refine .more (TripN.wp (inL_wp n (rowsS l) u (i : Nat) ?_)) (ih (i + 1) (by omega))
      unfold inL_T
      rw [w1, Int.toNat_natCast, rowsS_get l hil]
      refine ⟨decide_eq_true (by simp; omega), decide_eq_true (by simp; omega), rfl, decide_eq_true (by simp; omega), ?_, rfl, rfl, rfl⟩
      show (l[i].toList == u.toList) = false
      rw [txeq]
      exact decide_eq_false fun e => hu (e ▸ List.getElem_mem hil)
  refine FOk.wp (inF_wp n (rowsS l) u 0 ?_)
  unfold inF_T
  exact ⟨(r l.length 0 (by omega)).trip, rfl, rfl⟩
structure Iv (n : Nat) (m : List Mo) (offs : List ByteArray) : Prop where
  ok : ∀ k ∈ m, MoOk k
  lab : ∀ k ∈ m, k.s ≠ w0 ∧ k.c ≠ w0
  ds : (m.map fun x => (x.s, x.c)).Nodup
  us : ∀ k ∈ m, k.us.length ≤ n
  ln : m.length ≤ n
  off : ∀ k ∈ m, ∀ u ∈ offs, u ∉ k.us
theorem Iv.mono {n n' : Nat} {m : List Mo} {offs : List ByteArray} (h : Iv n m offs) (hn : n ≤ n') : Iv n' m offs := ⟨h.ok, h.lab, h.ds, fun k hk => Nat.le_trans (h.us k hk) hn, Nat.le_trans h.ln hn, h.off⟩
theorem Iv.nw {n : Nat} {m : List Mo} {offs : List ByteArray} (h : Iv n m offs) (s : ByteArray) : noMo s w0 m := fun k hk e => (h.lab k hk).2 e.2
theorem Iv.put {n : Nat} {m1 m2 : List Mo} {k k' : Mo} {offs : List ByteArray} (h : Iv n (m1 ++ [k] ++ m2) offs) (hs : k'.s = k.s) (hc : k'.c = k.c) (hk : MoOk k') (hu : k'.us.length ≤ n) (ho : ∀ u ∈ offs, u ∉ k'.us) : Iv n (m1 ++ [k'] ++ m2) offs := by
  have hc3 : ∀ x ∈ m1 ++ [k'] ++ m2, x = k' ∨ x ∈ m1 ++ [k] ++ m2 := fun x hx => by
    simp only [List.mem_append, List.mem_singleton] at hx ⊢
    rcases hx with (hx | rfl) | hx
    · exact .inr (.inl (.inl hx))
    · exact .inl rfl
    · exact .inr (.inr hx)
  refine ⟨fun x hx => ?_, fun x hx => ?_, ?_, fun x hx => ?_, by have := h.ln; simpa using this, fun x hx => ?_⟩
  · rcases hc3 x hx with rfl | hx
    · exact hk
    · exact h.ok x hx
  · rcases hc3 x hx with rfl | hx
    · rw [hs, hc]; exact h.lab k (by simp)
    · exact h.lab x hx
  · have := h.ds
    simpa [hs, hc] using this
  · rcases hc3 x hx with rfl | hx
    · exact hu
    · exact h.us x hx
  · rcases hc3 x hx with rfl | hx
    · exact ho
    · exact h.off x hx
theorem Iv.add {n : Nat} {m : List Mo} {k : Mo} {offs : List ByteArray} (h : Iv n m offs) (hk : MoOk k) (hl : k.s ≠ w0 ∧ k.c ≠ w0) (hno : noMo k.s k.c m) (hu : k.us.length ≤ n) (ho : ∀ u ∈ offs, u ∉ k.us) : Iv (n + 1) (m ++ [k]) offs := by
  have hc : ∀ x ∈ m ++ [k], x ∈ m ∨ x = k := fun x hx => by simpa using hx
  refine ⟨fun x hx => ?_, fun x hx => ?_, ?_, fun x hx => ?_, by have := h.ln; simp; omega, fun x hx => ?_⟩
  · rcases hc x hx with hx | rfl
    · exact h.ok x hx
    · exact hk
  · rcases hc x hx with hx | rfl
    · exact h.lab x hx
    · exact hl
  · rw [List.map_append, List.nodup_append]
    refine ⟨h.ds, by simp, fun a ha b hb => ?_⟩
    obtain ⟨x, hx, rfl⟩ := List.mem_map.1 ha
    simp at hb
    subst hb
    exact fun e => hno x hx ⟨congrArg Prod.fst e, congrArg Prod.snd e⟩
  · rcases hc x hx with hx | rfl
    · have := h.us x hx; omega
    · omega
  · rcases hc x hx with hx | rfl
    · exact h.off x hx
    · exact ho
theorem Iv.sub {n : Nat} {m m' : List Mo} {offs : List ByteArray} (h : Iv n m offs) (hs : m'.Sublist m) : Iv n m' offs :=
  ⟨fun k hk => h.ok k (hs.subset hk), fun k hk => h.lab k (hs.subset hk), h.ds.sublist (hs.map _), fun k hk => h.us k (hs.subset hk), Nat.le_trans hs.length_le h.ln, fun k hk => h.off k (hs.subset hk)⟩
theorem Iv.offU {n : Nat} {m : List Mo} {offs : List ByteArray} (h : Iv n m offs) (u : ByteArray) : Iv n (m.map fun k => { k with us := k.us.erase u }) (offs ++ [u]) := by
  refine ⟨fun x hx => ?_, fun x hx => ?_, by rw [List.map_map]; exact h.ds, fun x hx => ?_, by have := h.ln; simpa using this, fun x hx v hv => ?_⟩ <;> obtain ⟨k, hk, rfl⟩ := List.mem_map.1 hx
  · have := h.ok k hk
    exact ⟨this.nd.erase _, this.len, this.posts⟩
  · exact h.lab k hk
  · exact Nat.le_trans (List.erase_sublist).length_le (h.us k hk)
  · rcases List.mem_append.1 hv with hv | hv
    · exact fun hm => h.off k hk v hv (List.mem_of_mem_erase hm)
    · simp at hv; subst hv
      exact fun hm => ((h.ok k hk).nd.mem_erase_iff.1 hm).1 rfl
def Stp (n : Nat) (T : AState) (k : Int) (s c u x y z : ByteArray) (f g : Int) : Prop :=
  ∃ e a nl qs T' m' offs', MX T' m' offs' ∧ Iv n m' offs' ∧ FOk Tryd.prog 13 [.ptr 0 2 0 0, opw k s c u x y z f g] [.gh T] (rep e a (.fsl nl 2 qs none)) [.gh T']
theorem stp {n : Nat} {T : AState} {m' : List Mo} {offs' : List ByteArray} {k : Int} {s c u x y z : ByteArray} {f g : Int} {e a : Int} {nl : Bool} {qs : List (List AVal)} (h : Done (opw k s c u x y z f g) T (rep e a (.fsl nl 2 qs none)) m' offs') (hi : Iv n m' offs') : Stp n T k s c u x y z f g := by
  obtain ⟨T', h1, h2⟩ := h
  exact ⟨e, a, nl, qs, T', m', offs', h1, hi, h2⟩
theorem do_step {n : Nat} {T : AState} {m : List Mo} {offs : List ByteArray} (h : MX T m offs) (hi : Iv n m offs) (k : Int) (s c u x y z : ByteArray) (f g : Int) (hx : x.size ≤ 140737488355328) : Stp (n + 1) T k s c u x y z f g := by
  have hi1 := hi.mono (Nat.le_succ n)
  have hbad : ∀ {b : Bool}, FOk Tryd.prog 21 [opv k s c u x y z f g] [] (.int .i64 (if b = true then 0 else 1)) [] → b = false → Stp (n + 1) T k s c u x y z f g := fun {b} ck hb => by
    subst hb
    exact stp (doA h k s c u x y z f g ck) hi1
  rcases mayOp_cases k with rfl | rfl | rfl | rfl | rfl | rfl | rfl | h1
  · have ck := ck1_ok s c u x y z f g hx
    cases hm : may1 s c u x y z f g with
    | false => exact hbad ck hm
    | true =>
      rw [hm] at ck
      unfold may1 at hm
      simp only [Bool.and_eq_true, decide_eq_true_eq] at hm
      obtain ⟨⟨a1, a2, a3, a4, rfl, rfl⟩, a5, a6⟩ := hm
      obtain rfl := size0 a1; obtain rfl := size0 a2; obtain rfl := size0 a3; obtain rfl := size0 a4
      rcases mo_find s c m with hno | ⟨m1, k, m2, rfl, rfl, rfl, hno⟩
      · exact stp (doM h s c ck hno) (hi.add ⟨List.nodup_nil, Nat.zero_le _, (fun r hr => by cases hr)⟩ ⟨lab_ne a5, lab_ne a6⟩ hno (Nat.zero_le _) (fun u _ => by simp))
      · exact stp (doK h rfl rfl hno fun pre post b hk hn hb => doM6 pre post k.s k.c (gms offs) (gms k.us) b k.ps ck hk hn) hi1
  · have ck := ck2_ok s c u x y z f g hx
    cases hm : may2 s c u x y z f g with
    | false => exact hbad ck hm
    | true =>
      rw [hm] at ck
      unfold may2 at hm
      simp only [Bool.and_eq_true, decide_eq_true_eq] at hm
      obtain ⟨⟨a1, a2, a3, rfl, rfl⟩, a5, a6⟩ := hm
      obtain rfl := size0 a1; obtain rfl := size0 a2; obtain rfl := size0 a3
      rcases mo_find s c m with hno | ⟨m1, k, m2, rfl, rfl, rfl, hno⟩
      · exact stp (doN h 2 s c u w0 w0 w0 0 0 ck hno (by decide) (by decide) (by decide)) hi1
      · by_cases ho : u ∈ offs
        · exact stp (doK h rfl rfl hno fun pre post b hk hn hb => doS pre post 2 k.s k.c u w0 w0 w0 0 0 (gms offs) (gms k.us) b k.ps 92 0 true [] ck hk hn (by decide) (by decide) (by decide) (wJ_off pre post k.s k.c u offs k.us b k.ps ho)) hi1
        by_cases hu : u ∈ k.us
        · exact stp (doK h rfl rfl hno fun pre post b hk hn hb => doS pre post 2 k.s k.c u w0 w0 w0 0 0 (gms offs) (gms k.us) b k.ps 90 0 true [] ck hk hn (by decide) (by decide) (by decide) (wJ_there pre post k.s k.c u offs k.us b k.ps ho hu)) hi1
        · have hko := hi.ok k (by simp)
          refine stp (doU h rfl rfl hno fun pre post b hk hn hb => doJ pre post k.s k.c u offs k.us b k.ps ck hk hn ho hu) (hi1.put rfl rfl ⟨?_, hko.len, hko.posts⟩ (by have := hi.us k (by simp); simp; omega) fun v hv => ?_)
          · rw [List.nodup_append]
            exact ⟨hko.nd, by simp, fun a ha b hb => by simp at hb; subst hb; exact fun e => hu (e ▸ ha)⟩
          · intro hm
            rcases List.mem_append.1 hm with hm | hm
            · exact hi.off k (by simp) v hv hm
            · simp at hm; subst hm; exact ho hv
  · have ck := ck3_ok s c u x y z f g hx
    cases hm : may3 s c u x y z f g with
    | false => exact hbad ck hm
    | true =>
      rw [hm] at ck
      unfold may3 at hm
      simp only [Bool.and_eq_true, decide_eq_true_eq] at hm
      obtain ⟨⟨a1, a2, rfl, rfl⟩, ⟨a5, a6⟩, a7, _⟩ := hm
      obtain rfl := size0 a1; obtain rfl := size0 a2
      rcases mo_find s c m with hno | ⟨m1, k, m2, rfl, rfl, rfl, hno⟩
      · exact stp (doN h 3 s c u x w0 w0 0 0 ck hno (by decide) (by decide) (by decide)) hi1
      · have hko := hi.ok k (by simp)
        by_cases ho : u ∈ offs
        · exact stp (doK h rfl rfl hno fun pre post b hk hn hb => doS pre post 3 k.s k.c u x w0 w0 0 0 (gms offs) (gms k.us) b k.ps 92 0 true [] ck hk hn (by decide) (by decide) (by decide) (wP_off pre post k.s k.c u x offs k.us b k.ps ho)) hi1
        by_cases hu : u ∈ k.us
        · by_cases hf : 1024 ≤ k.ps.length
          · exact stp (doK h rfl rfl hno fun pre post b hk hn hb => doS pre post 3 k.s k.c u x w0 w0 0 0 (gms offs) (gms k.us) b k.ps 2 0 true [] ck hk hn (by decide) (by decide) (by decide) (wP_full pre post k.s k.c u x offs k.us b k.ps ho hu hf)) hi1
          · exact stp (doT h u x ck hno ho hu (by omega)) (hi1.put rfl rfl ⟨hko.nd, by simp; omega, fun r hr => by
              rcases List.mem_append.1 hr with hr | hr
              · exact hko.posts r hr
              · simp at hr; exact ⟨u, x, hr⟩⟩ (hi1.us k (by simp)) (hi.off k (by simp)))
        · exact stp (doK h rfl rfl hno fun pre post b hk hn hb => doS pre post 3 k.s k.c u x w0 w0 0 0 (gms offs) (gms k.us) b k.ps 91 0 true [] ck hk hn (by decide) (by decide) (by decide) (wP_no pre post k.s k.c u x offs k.us b k.ps ho hu)) hi1
  · have ck := ck4_ok s c u x y z f g hx
    cases hm : may4 s c u x y z f g with
    | false => exact hbad ck hm
    | true =>
      rw [hm] at ck
      unfold may4 at hm
      simp only [Bool.and_eq_true, decide_eq_true_eq] at hm
      obtain ⟨⟨a1, a2, a3, a4⟩, a5, b1, b2, b3, b4⟩ := hm
      obtain rfl := size0 a1; obtain rfl := size0 a2; obtain rfl := size0 a3; obtain rfl := size0 a4
      rcases mo_find s c m with hno | ⟨m1, k, m2, rfl, rfl, rfl, hno⟩
      · exact stp (doN h 4 s c w0 w0 w0 w0 f g ck hno (by decide) (by decide) (by decide)) hi1
      · have hko := hi.ok k (by simp)
        obtain ⟨cs1, y, cs2, rfl, rfl, rfl, hM, hb⟩ := h.split
        obtain ⟨T', g1, g2⟩ := hM.step6 (f := 13) (rest := [opw 4 y.s y.c w0 w0 w0 w0 f g]) (v := rdR y.b y.ps f g) rfl rfl y cs1 cs2 (fun y hy => hy) offs [] 5 (.rows true 2 y.ps) rfl rfl (.inl ⟨rfl, rfl, rfl, rfl⟩) hM.nd fun β => doS (hideE β (entsOf cs1)) (hideE β (entsOf cs2)) 4 y.s y.c w0 w0 w0 w0 f g (gms offs) (gms y.us) y.b y.ps _ _ _ _ ck (by rw [← hide_app, show entsOf cs1 ++ entsOf cs2 = entsOf (cs1 ++ cs2) by simp [entsOf]]; exact hide_keys β _) (afind_none β _ _ cs1 (noMo_ch hno)) (by decide) (by decide) (by decide) (wR_ok _ _ y.s y.c f g (gms offs) (gms y.us) y.b y.ps (hb y (by simp)) hko.posts hko.len b1 b2 b3 b4)
        exact stp ⟨T', ⟨_, by simp, g1, hb⟩, g2⟩ hi1
  · have ck := ck5_ok s c u x y z f g hx
    cases hm : may5 s c u x y z f g with
    | false => exact hbad ck hm
    | true =>
      rw [hm] at ck
      unfold may5 at hm
      simp only [Bool.and_eq_true, decide_eq_true_eq] at hm
      obtain ⟨⟨a1, a2, rfl, rfl⟩, ⟨a5, a6⟩, a7, a8⟩ := hm
      obtain rfl := size0 a1; obtain rfl := size0 a2
      rcases mo_find s c m with hno | ⟨m1, k, m2, rfl, rfl, rfl, hno⟩
      · exact stp (doN h 5 s c w0 w0 y z 0 0 ck hno (by decide) (by decide) (by decide)) hi1
      · by_cases hy : noMo y z (m1 ++ [k] ++ m2)
        · have hsub : (m1 ++ m2).Sublist (m1 ++ [k] ++ m2) := by
            rw [List.append_assoc]
            exact List.Sublist.append (List.Sublist.refl _) (List.sublist_append_right _ _)
          have hko := hi.ok k (by simp)
          exact stp (doV h y z hno hy ck) ((hi.sub hsub).add ⟨hko.nd, hko.len, hko.posts⟩ ⟨lab_ne a7, lab_ne a8⟩ (fun a ha => hy a (hsub.subset ha)) (hi.us k (by simp)) (hi.off k (by simp)))
        · exact stp (doVt h y z hno hy ck) hi1
  · have ck := ck6_ok s c u x y z f g hx
    cases hm : may6 s c u x y z f g with
    | false => exact hbad ck hm
    | true =>
      rw [hm] at ck
      unfold may6 at hm
      simp only [Bool.and_eq_true, decide_eq_true_eq] at hm
      obtain ⟨⟨a1, a2, a3, a4, a5, rfl, rfl⟩, a6⟩ := hm
      obtain rfl := size0 a1; obtain rfl := size0 a2; obtain rfl := size0 a3; obtain rfl := size0 a4; obtain rfl := size0 a5
      exact stp (doC h s hi.ds (hi.nw s) ck) (hi1.sub List.filter_sublist)
  · have ck := ck7_ok s c u x y z f g hx
    cases hm : may7 s c u x y z f g with
    | false => exact hbad ck hm
    | true =>
      rw [hm] at ck
      unfold may7 at hm
      simp only [Bool.and_eq_true, decide_eq_true_eq] at hm
      obtain ⟨⟨a1, a2, a3, a4, a5, rfl, rfl⟩, a6⟩ := hm
      obtain rfl := size0 a1; obtain rfl := size0 a2; obtain rfl := size0 a3; obtain rfl := size0 a4; obtain rfl := size0 a5
      by_cases ho : u ∈ offs
      · exact stp (doF h u ho (hi.nw w0) ck) hi1
      · exact stp (doO h u ho (hi.nw w0) ck) (hi1.offU u)
  · exact stp (doA h k s c u x y z f g (ck0_ok k s c u x y z f g h1)) hi1
end Go.MN
end

section
set_option linter.unusedVariables false
set_option linter.unusedSimpArgs false
set_option linter.unusedSectionVars false
set_option maxRecDepth 100000
namespace Go.MN
open Go Go.Abs Go.Proofs
abbrev r3 : Regs := mkR 96 [(3, .ptr 0 2 0 0)]
theorem en_rounds (nb : Bool) (os : List Opx) (hsz : ∀ o ∈ os, o.x.size ≤ 140737488355328) : ∀ (d i : Nat) (T : AState) (m : List Mo) (offs : List ByteArray), i + d = min os.length 100 → MX T m offs → Iv i m offs →
    ∃ T' m' offs', MX T' m' offs' ∧ Iv 100 m' offs' ∧ LoopRun Tryd.prog 0 (loopNo Tryd.f9 0) (mkR 96 [(0, .fsl nb 9 (oprs os) none), (3, .ptr 0 2 0 0), (4, .int .i64 (i : Nat))]) [.gh T] (.exit 0) r3 [.gh T']
  | 0, i, T, m, offs, hi, hM, hI => by
    refine ⟨T, m, offs, hM, hI.mono (by omega), ?_⟩
    by_cases h : i < os.length
    · refine .done ((TripN.wp (rg' := mkR 96 [(0, .fsl nb 9 (oprs os) none), (3, .ptr 0 2 0 0), (4, .int .i64 (i : Nat))]) (σ' := [.gh T]) (e := .exit 0) (enY_wp nb (oprs os) (i : Nat) T ?_)).out ?_) (by simp)
      · unfold enY_T
        exact ⟨decide_eq_true (by simp; omega), decide_eq_false (by omega), rfl, rfl, rfl⟩
      · exact keepR_imp (keepM 96 [3]) _
    · refine .done ((TripN.wp (rg' := mkR 96 [(0, .fsl nb 9 (oprs os) none), (3, .ptr 0 2 0 0), (4, .int .i64 (i : Nat))]) (σ' := [.gh T]) (e := .exit 0) (enX_wp nb (oprs os) (i : Nat) T ?_)).out ?_) (by simp)
      · unfold enX_T
        exact ⟨decide_eq_false (by simp; omega), rfl, rfl, rfl⟩
      · exact keepR_imp (keepM 96 [3]) _
  | d + 1, i, T, m, offs, hi, hM, hI => by
    have hin : i < os.length := by omega
    have w1 : IntKind.wrap .i64 ((i : Int) + 1) = ((i + 1 : Nat) : Int) := by rw [wrapS (by omega) (by omega)]; omega
    have hrow := oprs_get os hin
    obtain ⟨e, a, nl, qs, T2, m2, offs2, g1, g2, g3⟩ := do_step hM hI os[i].k os[i].s os[i].c os[i].u os[i].x os[i].y os[i].z os[i].f os[i].n (hsz _ (List.getElem_mem hin))
    obtain ⟨T', m', offs', h1, h2, r⟩ := en_rounds nb os hsz d (i + 1) T2 m2 offs2 (by omega) g1 g2
    refine ⟨T', m', offs', h1, h2, .more (TripN.wp (enB_wp nb (oprs os) (i : Nat) T T2 e a nl qs ?_)) r⟩
    unfold enB_T
    rw [w1, Int.toNat_natCast, hrow]
    exact ⟨decide_eq_true (by simp; omega), decide_eq_true (by omega), decide_eq_true (by simp; omega), rfl, decide_eq_true (by simp; omega), g3, rfl, rfl, rfl⟩
theorem mem_rounds {m : List Mo} {offs : List ByteArray} {n : Nat} (hI : Iv n m offs) (hn : n ≤ 1000) (ha : tann ∈ offs) (n1 : Bool) (vs : List ByteArray) (hv : ∀ c ∈ vs, ¬ noMo tv c m) (hl : vs.length ≤ 1000) : ∀ (d i : Nat) (T : AState), i + d = vs.length → MX T m offs →
    ∃ T', MX T' m offs ∧ LoopRun Tryd.prog 0 (loopNo Tryd.f9 1) (mkR 96 [(3, .ptr 0 2 0 0), (5, .fsl n1 1 (rowsS vs) none), (7, .int .i64 (i : Nat))]) [.gh T] (.exit 2) r3 [.gh T']
  | 0, i, T, hi, hM => by
    refine ⟨T, hM, .done ((TripN.wp (rg' := mkR 96 [(3, .ptr 0 2 0 0), (5, .fsl n1 1 (rowsS vs) none), (7, .int .i64 (i : Nat))]) (σ' := [.gh T]) (e := .exit 2) (enN_wp n1 (rowsS vs) (i : Nat) T ?_)).out ?_) (by simp)⟩
    · unfold enN_T
      exact ⟨decide_eq_false (by simp; omega), rfl, rfl, rfl⟩
    · exact keepR_imp (keepM 96 [3]) _
  | d + 1, i, T, hi, hM => by
    have hin : i < vs.length := by omega
    have w1 : IntKind.wrap .i64 ((i : Int) + 1) = ((i + 1 : Nat) : Int) := by rw [wrapS (by omega) (by omega)]; omega
    have hrow := rowsS_get vs hin
    rcases mo_find tv vs[i] m with hno | ⟨m1, k, m2, rfl, hs, hc, hno⟩
    · exact absurd hno (hv _ (List.getElem_mem hin))
    · obtain ⟨ls, p1, p2⟩ := sorted_of k.us
      have hkl := hI.us k (by simp)
      obtain ⟨T2, g1, g2⟩ := membersT hM (by rw [hs, hc]; exact hno) ls p1 p2 (by omega)
      rw [hs, hc] at g2
      obtain ⟨T', h1, r⟩ := mem_rounds hI hn ha n1 vs hv hl d (i + 1) T2 (by omega) g1
      refine ⟨T', h1, .more (TripN.wp (enM_wp n1 (rowsS vs) (i : Nat) T T2 ls.isEmpty (rowsS ls) ?_)) r⟩
      unfold enM_T
      rw [w1, Int.toNat_natCast, hrow]
      exact ⟨decide_eq_true (by simp; omega), decide_eq_true (by simp; omega), rfl, decide_eq_true (by simp; omega), g2, in_no _ ls tann (fun hm => hI.off k (by simp) tann ha (p1.mem_iff.1 hm)) (by rw [p1.length_eq]; omega), rfl, rfl, rfl⟩
theorem nameOf {m : List Mo} {s : ByteArray} {c : ByteArray} : c ∈ (m.filter fun x => decide (x.s = s)).map (·.c) → ¬ noMo s c m := fun h hn => by
  obtain ⟨k, hk, rfl⟩ := List.mem_map.1 h
  obtain ⟨h1, h2⟩ := List.mem_filter.1 hk
  exact hn k h1 ⟨of_decide_eq_true h2, rfl⟩
theorem ends_law (nb : Bool) (os : List Opx) (hsz : ∀ o ∈ os, o.x.size ≤ 140737488355328) : FOk Tryd.prog 9 [.fsl nb 9 (oprs os) none] [] (.bool true) [] := by
  obtain ⟨T1, m1, offs1, hM1, hI1, r1⟩ := en_rounds nb os hsz (min os.length 100) 0 T00 [] [] (by omega) mx00 ⟨(fun k hk => by cases hk), (fun k hk => by cases hk), List.nodup_nil, (fun k hk => by cases hk), Nat.le_refl _, (fun k hk => by cases hk)⟩
  -- v/stays
  have ckM : FOk Tryd.prog 21 [opw 1 tv tstays w0 w0 w0 w0 0 0] [] (.int .i64 0) [] := ckk1 (small _) (by decide +kernel)
  obtain ⟨e, a, T2, m2, hM2, hI2, f2, hst⟩ : ∃ e a T2 m2, MX T2 m2 offs1 ∧ Iv 101 m2 offs1 ∧ FOk Tryd.prog 13 [.ptr 0 2 0 0, opw 1 tv tstays w0 w0 w0 w0 0 0] [.gh T1] (rep e a (.fsl true 2 [] none)) [.gh T2] ∧ ¬ noMo tv tstays m2 := by
    rcases mo_find tv tstays m1 with hno | ⟨l1, k, l2, rfl, hs, hc, hno⟩
    · obtain ⟨T2, g1, g2⟩ := doM hM1 tv tstays ckM hno
      exact ⟨0, 0, T2, _, g1, hI1.add ⟨List.nodup_nil, Nat.zero_le _, (fun r hr => by cases hr)⟩ ⟨by decide, by decide⟩ hno (Nat.zero_le _) (fun u _ => by simp), g2, fun h => h ⟨tv, tstays, [], []⟩ (by simp) ⟨rfl, rfl⟩⟩
    · rw [← hs, ← hc] at ckM hno
      obtain ⟨T2, g1, g2⟩ := doK (op := opw 1 k.s k.c w0 w0 w0 w0 0 0) (v := rep 90 0 nilps) hM1 rfl rfl hno fun pre post b hk hn hb => doM6 pre post k.s k.c (gms offs1) (gms k.us) b k.ps ckM hk hn
      rw [hs, hc] at g2
      exact ⟨90, 0, T2, _, g1, hI1.mono (by omega), g2, fun h => h k (by simp) ⟨hs, hc⟩⟩
  obtain ⟨vs, p1, p2⟩ := sorted_of ((m2.filter fun x => decide (x.s = tv)).map (·.c))
  obtain ⟨T3, hM3, f3⟩ := chansT hM2 tv vs p1 p2 (by have := hI2.ln; omega)
  have ckC : FOk Tryd.prog 21 [opw 6 tw w0 w0 w0 w0 w0 0 0] [] (.int .i64 0) [] := by
    have := ck6_ok tw w0 w0 w0 w0 w0 0 0 (small w0)
    rw [show may6 tw w0 w0 w0 w0 w0 0 0 = true from by decide +kernel] at this
    exact this
  obtain ⟨T4, hM4, f4⟩ := doC hM3 tw hI2.ds (hI2.nw tw) ckC
  have hI4 := hI2.sub (List.filter_sublist (p := fun x : Mo => decide (x.s ≠ tw)) (l := m2))
  obtain ⟨T5, hM5, f5⟩ := chansT hM4 tw [] (by
    rw [List.filter_filter, List.filter_eq_nil_iff.2 fun x hx => by simp]
    exact List.Perm.refl _) List.Pairwise.nil (by have := hI4.ln; omega)
  have hvw : ((m2.filter fun x => decide (x.s ≠ tw)).filter fun x => decide (x.s = tv)) = m2.filter fun x => decide (x.s = tv) := by
    rw [List.filter_filter]
    refine List.filter_congr fun x hx => ?_
    by_cases h : x.s = tv
    · have : x.s ≠ tw := by rw [h]; decide
      first | (simp [h]; done) | (simp [h]; decide)
    · simp [h]
  obtain ⟨T6, hM6, f6⟩ := chansT hM5 tv vs (by rw [hvw]; exact p1) p2 (by have := hI4.ln; omega)
  -- ann is off
  obtain ⟨e2, a2, T7, m7, offs7, hM7, hI7, f7, ha, hnm⟩ : ∃ e2 a2 T7 m7 offs7, MX T7 m7 offs7 ∧ Iv 101 m7 offs7 ∧ FOk Tryd.prog 13 [.ptr 0 2 0 0, opw 7 w0 w0 tann w0 w0 w0 0 0] [.gh T6] (rep e2 a2 (.fsl true 2 [] none)) [.gh T7] ∧ tann ∈ offs7 ∧ (∀ c, ¬ noMo tv c (m2.filter fun x => decide (x.s ≠ tw)) → ¬ noMo tv c m7) := by
    by_cases ho : tann ∈ offs1
    · obtain ⟨T7, g1, g2⟩ := doF hM6 tann ho (hI4.nw w0) ckF
      exact ⟨92, 0, T7, _, _, g1, hI4, g2, ho, fun c h => h⟩
    · obtain ⟨T7, g1, g2⟩ := doO hM6 tann ho (hI4.nw w0) ckF
      refine ⟨0, 0, T7, _, _, g1, hI4.offU tann, g2, by simp, fun c h hn => h fun k hk e => ?_⟩
      exact hn { k with us := k.us.erase tann } (List.mem_map.2 ⟨k, hk, rfl⟩) e
  have hvs : ∀ c ∈ vs, ¬ noMo tv c m7 := fun c hc => hnm c (nameOf (by rw [hvw]; exact p1.mem_iff.1 hc))
  have hvl : vs.length ≤ 1000 := by
    rw [p1.length_eq, List.length_map]
    have := List.length_filter_le (fun x : Mo => decide (x.s = tv)) m2
    have := hI2.ln
    omega
  obtain ⟨T8, hM8, r8⟩ := mem_rounds hI7 (by omega) ha vs.isEmpty vs hvs hvl vs.length 0 T7 (by omega) hM7
  have hst7 : ¬ noMo tv tstays m7 := hnm tstays fun hn => hst fun k hk e => hn k (List.mem_filter.2 ⟨hk, by rw [e.1]; decide⟩) e
  have ckJ : FOk Tryd.prog 21 [opw 2 tv tstays tann w0 w0 w0 0 0] [] (.int .i64 0) [] := ckk2 (small _) (by decide +kernel)
  obtain ⟨T9, hM9, f9⟩ : ∃ T9, MX T9 m7 offs7 ∧ FOk Tryd.prog 13 [.ptr 0 2 0 0, opw 2 tv tstays tann w0 w0 w0 0 0] [.gh T8] (rep 92 0 nilps) [.gh T9] := by
    rcases mo_find tv tstays m7 with hno | ⟨l1, k, l2, rfl, hs, hc, hno⟩
    · exact absurd hno hst7
    · rw [← hs, ← hc] at ckJ hno
      obtain ⟨T9, g1, g2⟩ := doK (op := opw 2 k.s k.c tann w0 w0 w0 0 0) (v := rep 92 0 nilps) hM8 rfl rfl hno fun pre post b hk hn hb => doS pre post 2 k.s k.c tann w0 w0 w0 0 0 (gms offs7) (gms k.us) b k.ps 92 0 true [] ckJ hk hn (by decide) (by decide) (by decide) (wJ_off pre post k.s k.c tann offs7 k.us b k.ps ha)
      rw [hs, hc] at g2
      exact ⟨T9, g1, g2⟩
  obtain ⟨T10, hM10, f10⟩ := doF hM9 tann ha (hI7.nw w0) ckF
  refine FOk.wp (en_wp nb (oprs os) (rowsS vs) vs.isEmpty true T00 T1 T2 T3 T4 T5 T6 T7 T8 T9 T10 0 0 e a e2 a2 true true [] [] ?_)
  unfold en_T
  exact ⟨new_gh, r1.trip, f2, f3, f4, f5, f6, same_ok _ vs hvl, f7, r8.trip, f9, f10, awake_ok, rfl, rfl⟩
theorem ends_row (xs : List AVal) (h : okArgs Tryd.prog Tryd.f9.params.toList [[.sl 120 [.int .i64, .str, .str, .str, .str, .str, .str, .int .i64, .int .i64]]] xs) : ∃ σ', FOk Tryd.prog 9 xs [] (.bool true) σ' := by
  obtain ⟨a, bs, rfl, h1, h3⟩ := h
  cases h3
  unfold okArg at h1
  rw [if_neg (by rw [show isAggT Tryd.prog 22 = false from by kernel_rfl]; simp)] at h1
  simp only [okKs, okK] at h1
  obtain ⟨v, us, e, ⟨nb, rows, rfl, _, _, _, hr⟩, rfl⟩ := h1
  cases e
  obtain ⟨os, rfl, hz⟩ := ops_rows rows hr
  exact ⟨_, ends_law nb os fun o ho => Nat.le_trans (hz o ho) (by decide)⟩
end Go.MN
end

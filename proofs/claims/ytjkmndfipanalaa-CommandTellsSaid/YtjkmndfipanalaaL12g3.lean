import Derived.Test.YtjkmndfipanalaaL12g2
section
set_option linter.unusedVariables false
set_option maxRecDepth 100000
namespace Go.L12
open Go Go.Abs Go.Proofs
def rgtAr (i len q : Int) : Regs := mkR 117 [(0, .ptr 0 1 0 0), (13, .ptr 3 3 0 2), (15, .slc false 1 1 0 5 none), (16, .int .i64 5), (17, .int .i64 i), (97, .int .i64 len), (98, .int .i64 q)]
abbrev hinA (a0 a1 b0 b1 : Int) (b : Bool) (kk : Nat) (rs : List (List AVal)) (s : ByteArray) : AState := [.rows true 1 [[.str s]], .rows false 1 (flA 2 3), .rows true 2 [rA0 a0 a1], .rows false 3 [rA1 b0 b1 (.slc b 4 2 0 kk none)], .rows true 2 rs]
theorem tAr_1 (a0 a1 b0 b1 : Int) (b : Bool) (kk : Nat) (rs : List (List AVal)) (i len q : Int) (s : ByteArray)
    (h1 : decide (List.length rs = kk) = true)
    (h2 : decide ((kk + 1) * 32 ≤ 140737488355328 ∧ kk + 1 ≤ 9223372036854775807) = true)
    (h3 : Option.isSome (takeR 112 s) = true)
    (h4 : decide (q < len) = true) :
    TripN Try.prog 4 (loopNo Try.f60 2) (rgtAr i len q) (hinA a0 a1 b0 b1 b kk rs s) (AExit.normal) (mkR 117 [(0, AVal.ptr 0 1 0 0), (13, AVal.ptr 3 3 0 2), (15, AVal.slc false 1 1 0 5 none), (16, AVal.int IntKind.i64 5), (17, AVal.int IntKind.i64 i), (97, AVal.int IntKind.i64 len), (98, AVal.int IntKind.i64 (IntKind.wrap IntKind.i64 (q + 1)))]) ([AObj.rows true 1 [[AVal.str (Prod.snd (Option.getD (takeR 112 s) ([], ByteArray.mk #[])))]], AObj.rows false 1 (flA 2 3), AObj.rows true 2 [[AVal.int IntKind.i64 a0, AVal.int IntKind.i64 a1]], AObj.rows false 3 [[AVal.int IntKind.i64 b0, AVal.int IntKind.i64 b1, AVal.slc (b && false) 4 2 0 (kk + 1) none]], AObj.rows true 2 (rs ++ [[AVal.str (AVal.toStr (List.getD (Prod.fst (Option.getD (takeR 112 s) ([], ByteArray.mk #[]))) 0 AVal.any)), AVal.str (AVal.toStr (List.getD (Prod.fst (Option.getD (takeR 112 s) ([], ByteArray.mk #[]))) 1 AVal.any))]])]) :=
  evalT (st := St.mk (rgtAr i len q) (hinA a0 a1 b0 b1 b kk rs s) ([Dec.br true, Dec.use [0, 6, 5] [AVal.ptr 0 1 0 0, AVal.slc false 1 1 0 2 (some 2)] [AObj.rows true 1 [[AVal.str s]], AObj.rows false 1 [[AVal.iface 104 (AVal.ptr 2 2 0 0)], [AVal.iface 104 (AVal.ptr 2 2 0 1)]], AObj.rows true 2 [[AVal.str (ByteArray.mk #[]), AVal.str (ByteArray.mk #[])]]] (AVal.tuple []) [AObj.rows true 1 [[AVal.str (Prod.snd (Option.getD (takeR 112 s) ([], ByteArray.mk #[])))]], AObj.rows false 1 [[AVal.iface 104 (AVal.ptr 2 2 0 0)], [AVal.iface 104 (AVal.ptr 2 2 0 1)]], AObj.rows true 2 [[AVal.str (AVal.toStr (List.getD (Prod.fst (Option.getD (takeR 112 s) ([], ByteArray.mk #[]))) 0 AVal.any)), AVal.str (AVal.toStr (List.getD (Prod.fst (Option.getD (takeR 112 s) ([], ByteArray.mk #[]))) 1 AVal.any))]]]]) []) (st' := St.mk (mkR 117 [(0, AVal.ptr 0 1 0 0), (13, AVal.ptr 3 3 0 2), (14, AVal.ptr 5 2 0 0), (15, AVal.slc false 1 1 0 5 none), (16, AVal.int IntKind.i64 5), (17, AVal.int IntKind.i64 i), (97, AVal.int IntKind.i64 len), (98, AVal.int IntKind.i64 (IntKind.wrap IntKind.i64 (q + 1))), (99, AVal.tt true), (100, AVal.ptr 0 1 0 0), (101, AVal.ptr 5 2 0 0), (102, AVal.iface 104 (AVal.ptr 5 2 0 0)), (103, AVal.ptr 5 2 0 1), (104, AVal.iface 104 (AVal.ptr 5 2 0 1)), (105, AVal.slc false 6 1 0 2 (some 2)), (106, AVal.tuple []), (107, AVal.ptr 3 3 0 2), (108, AVal.ptr 3 3 0 2), (109, AVal.ptr 3 3 0 2), (110, AVal.slc b 4 2 0 kk none), (111, AVal.agg [AVal.str (AVal.toStr (List.getD (Prod.fst (Option.getD (takeR 112 s) ([], ByteArray.mk #[]))) 0 AVal.any)), AVal.str (AVal.toStr (List.getD (Prod.fst (Option.getD (takeR 112 s) ([], ByteArray.mk #[]))) 1 AVal.any))]), (112, AVal.slc false 7 2 0 1 (some 1)), (113, AVal.slc (b && false) 8 2 0 (kk + 1) none), (114, AVal.ptr 3 3 0 2), (115, AVal.int IntKind.i64 (IntKind.wrap IntKind.i64 (q + 1)))]) ([AObj.rows true 1 [[AVal.str (Prod.snd (Option.getD (takeR 112 s) ([], ByteArray.mk #[])))]], AObj.rows false 1 (flA 2 3), AObj.rows true 2 [[AVal.int IntKind.i64 a0, AVal.int IntKind.i64 a1]], AObj.rows false 3 [[AVal.int IntKind.i64 b0, AVal.int IntKind.i64 b1, AVal.slc (b && false) 8 2 0 (kk + 1) none]], AObj.dead, AObj.rows true 2 [[AVal.str (AVal.toStr (List.getD (Prod.fst (Option.getD (takeR 112 s) ([], ByteArray.mk #[]))) 0 AVal.any)), AVal.str (AVal.toStr (List.getD (Prod.fst (Option.getD (takeR 112 s) ([], ByteArray.mk #[]))) 1 AVal.any))]], AObj.rows false 1 [[AVal.iface 104 (AVal.ptr 5 2 0 0)], [AVal.iface 104 (AVal.ptr 5 2 0 1)]], AObj.rows true 2 [[AVal.str (AVal.toStr (List.getD (Prod.fst (Option.getD (takeR 112 s) ([], ByteArray.mk #[]))) 0 AVal.any)), AVal.str (AVal.toStr (List.getD (Prod.fst (Option.getD (takeR 112 s) ([], ByteArray.mk #[]))) 1 AVal.any))]], AObj.rows true 2 (rs ++ [[AVal.str (AVal.toStr (List.getD (Prod.fst (Option.getD (takeR 112 s) ([], ByteArray.mk #[]))) 0 AVal.any)), AVal.str (AVal.toStr (List.getD (Prod.fst (Option.getD (takeR 112 s) ([], ByteArray.mk #[]))) 1 AVal.any))]])]) ([]) (tr 9 ++ ((decide (List.length rs = kk) = true) :: ((decide ((kk + 1) * 32 ≤ 140737488355328 ∧ kk + 1 ≤ 9223372036854775807) = true) :: (tr 25 ++ ((Owed.use (owed Try.prog 4) 60 [0, 6, 5] [AVal.ptr 0 1 0 0, AVal.slc false 6 1 0 2 (some 2)] [AObj.rows true 1 [[AVal.str s]], AObj.rows false 1 (flA 2 3), AObj.rows true 2 [[AVal.int IntKind.i64 a0, AVal.int IntKind.i64 a1]], AObj.rows false 3 [[AVal.int IntKind.i64 b0, AVal.int IntKind.i64 b1, AVal.slc b 4 2 0 kk none]], AObj.rows true 2 rs, AObj.rows true 2 [[AVal.str (ByteArray.mk #[]), AVal.str (ByteArray.mk #[])]], AObj.rows false 1 [[AVal.iface 104 (AVal.ptr 5 2 0 0)], [AVal.iface 104 (AVal.ptr 5 2 0 1)]]] [AVal.ptr 0 1 0 0, AVal.slc false 1 1 0 2 (some 2)] [AObj.rows true 1 [[AVal.str s]], AObj.rows false 1 [[AVal.iface 104 (AVal.ptr 2 2 0 0)], [AVal.iface 104 (AVal.ptr 2 2 0 1)]], AObj.rows true 2 [[AVal.str (ByteArray.mk #[]), AVal.str (ByteArray.mk #[])]]] (AVal.tuple []) [AObj.rows true 1 [[AVal.str (Prod.snd (Option.getD (takeR 112 s) ([], ByteArray.mk #[])))]], AObj.rows false 1 [[AVal.iface 104 (AVal.ptr 2 2 0 0)], [AVal.iface 104 (AVal.ptr 2 2 0 1)]], AObj.rows true 2 [[AVal.str (AVal.toStr (List.getD (Prod.fst (Option.getD (takeR 112 s) ([], ByteArray.mk #[]))) 0 AVal.any)), AVal.str (AVal.toStr (List.getD (Prod.fst (Option.getD (takeR 112 s) ([], ByteArray.mk #[]))) 1 AVal.any))]]]) :: ((decide (q < len) = true) :: []))))))) followed (by kernel_rfl) (allP_of (trC 9 ⟨h1, ⟨h2, (trC 25 ⟨⟨(@Go.L12.takesP_ok (s) h3), rfl, rfl, rfl⟩, ⟨h4, trivial⟩⟩)⟩⟩)) (keepM 117 [0, 13, 15, 16, 17, 97, 98]) ([0, 1, 2, 3, 8]) (by kernel_rfl) (by kernel_rfl) (by kernel_rfl)

theorem tAr_2 (a0 a1 b0 b1 : Int) (b : Bool) (kk : Nat) (rs : List (List AVal)) (i len q : Int) (s : ByteArray)
    (h1 : Option.isSome (takeR 112 s) = false)
    (h2 : decide (q < len) = true) :
    TripN Try.prog 4 (loopNo Try.f60 2) (rgtAr i len q) (hinA a0 a1 b0 b1 b kk rs s) (AExit.pan 117) (mkR 117 [(0, AVal.ptr 0 1 0 0), (13, AVal.ptr 3 3 0 2), (15, AVal.slc false 1 1 0 5 none), (16, AVal.int IntKind.i64 5), (17, AVal.int IntKind.i64 i), (97, AVal.int IntKind.i64 len), (98, AVal.int IntKind.i64 q)]) ([AObj.dead, AObj.rows false 1 (flA 2 3), AObj.rows true 2 [[AVal.int IntKind.i64 a0, AVal.int IntKind.i64 a1]], AObj.rows false 3 [[AVal.int IntKind.i64 b0, AVal.int IntKind.i64 b1, AVal.slc b 4 2 0 kk none]], AObj.rows true 2 rs]) :=
  evalT (st := St.mk (rgtAr i len q) (hinA a0 a1 b0 b1 b kk rs s) ([Dec.br true, Dec.use [0, 6, 5] [AVal.ptr 0 1 0 0, AVal.slc false 1 1 0 2 (some 2)] [AObj.rows true 1 [[AVal.str s]], AObj.rows false 1 [[AVal.iface 104 (AVal.ptr 2 2 0 0)], [AVal.iface 104 (AVal.ptr 2 2 0 1)]], AObj.rows true 2 [[AVal.str (ByteArray.mk #[]), AVal.str (ByteArray.mk #[])]]] (AVal.pan 117) [AObj.dead, AObj.dead, AObj.dead]]) []) (st' := St.mk (mkR 117 [(0, AVal.ptr 0 1 0 0), (13, AVal.ptr 3 3 0 2), (14, AVal.ptr 5 2 0 0), (15, AVal.slc false 1 1 0 5 none), (16, AVal.int IntKind.i64 5), (17, AVal.int IntKind.i64 i), (97, AVal.int IntKind.i64 len), (98, AVal.int IntKind.i64 q), (99, AVal.tt true), (100, AVal.ptr 0 1 0 0), (101, AVal.ptr 5 2 0 0), (102, AVal.iface 104 (AVal.ptr 5 2 0 0)), (103, AVal.ptr 5 2 0 1), (104, AVal.iface 104 (AVal.ptr 5 2 0 1)), (105, AVal.slc false 6 1 0 2 (some 2))]) ([AObj.dead, AObj.rows false 1 (flA 2 3), AObj.rows true 2 [[AVal.int IntKind.i64 a0, AVal.int IntKind.i64 a1]], AObj.rows false 3 [[AVal.int IntKind.i64 b0, AVal.int IntKind.i64 b1, AVal.slc b 4 2 0 kk none]], AObj.rows true 2 rs, AObj.dead, AObj.dead]) ([]) ((Owed.use (owed Try.prog 4) 60 [0, 6, 5] [AVal.ptr 0 1 0 0, AVal.slc false 6 1 0 2 (some 2)] [AObj.rows true 1 [[AVal.str s]], AObj.rows false 1 (flA 2 3), AObj.rows true 2 [[AVal.int IntKind.i64 a0, AVal.int IntKind.i64 a1]], AObj.rows false 3 [[AVal.int IntKind.i64 b0, AVal.int IntKind.i64 b1, AVal.slc b 4 2 0 kk none]], AObj.rows true 2 rs, AObj.rows true 2 [[AVal.str (ByteArray.mk #[]), AVal.str (ByteArray.mk #[])]], AObj.rows false 1 [[AVal.iface 104 (AVal.ptr 5 2 0 0)], [AVal.iface 104 (AVal.ptr 5 2 0 1)]]] [AVal.ptr 0 1 0 0, AVal.slc false 1 1 0 2 (some 2)] [AObj.rows true 1 [[AVal.str s]], AObj.rows false 1 [[AVal.iface 104 (AVal.ptr 2 2 0 0)], [AVal.iface 104 (AVal.ptr 2 2 0 1)]], AObj.rows true 2 [[AVal.str (ByteArray.mk #[]), AVal.str (ByteArray.mk #[])]]] (AVal.pan 117) [AObj.dead, AObj.dead, AObj.dead]) :: ((decide (q < len) = true) :: []))) followed (by kernel_rfl) (allP_of ⟨⟨(@Go.L12.takesP_no (s) h1), rfl, rfl, rfl⟩, ⟨h2, trivial⟩⟩) (keepM 117 [0, 13, 15, 16, 17, 97, 98]) ([0, 1, 2, 3, 4]) (by kernel_rfl) (by kernel_rfl) (by kernel_rfl)

def tAr_T (a0 a1 b0 b1 : Int) (b : Bool) (kk : Nat) (rs : List (List AVal)) (i len q : Int) (s : ByteArray) (Q : AExit → Regs → AState → Prop) : Prop := (decide (q < len) = true) ∧ ((((Option.isSome (takeR 112 s) = true)) → (decide ((kk + 1) * 32 ≤ 140737488355328 ∧ kk + 1 ≤ 9223372036854775807) = true) ∧ (decide (List.length rs = kk) = true) ∧ Q (AExit.normal) (mkR 117 [(0, AVal.ptr 0 1 0 0), (13, AVal.ptr 3 3 0 2), (15, AVal.slc false 1 1 0 5 none), (16, AVal.int IntKind.i64 5), (17, AVal.int IntKind.i64 i), (97, AVal.int IntKind.i64 len), (98, AVal.int IntKind.i64 (IntKind.wrap IntKind.i64 (q + 1)))]) ([AObj.rows true 1 [[AVal.str (Prod.snd (Option.getD (takeR 112 s) ([], ByteArray.mk #[])))]], AObj.rows false 1 (flA 2 3), AObj.rows true 2 [[AVal.int IntKind.i64 a0, AVal.int IntKind.i64 a1]], AObj.rows false 3 [[AVal.int IntKind.i64 b0, AVal.int IntKind.i64 b1, AVal.slc (b && false) 4 2 0 (kk + 1) none]], AObj.rows true 2 (rs ++ [[AVal.str (AVal.toStr (List.getD (Prod.fst (Option.getD (takeR 112 s) ([], ByteArray.mk #[]))) 0 AVal.any)), AVal.str (AVal.toStr (List.getD (Prod.fst (Option.getD (takeR 112 s) ([], ByteArray.mk #[]))) 1 AVal.any))]])])) ∧ (((Option.isSome (takeR 112 s) = false)) → Q (AExit.pan 117) (mkR 117 [(0, AVal.ptr 0 1 0 0), (13, AVal.ptr 3 3 0 2), (15, AVal.slc false 1 1 0 5 none), (16, AVal.int IntKind.i64 5), (17, AVal.int IntKind.i64 i), (97, AVal.int IntKind.i64 len), (98, AVal.int IntKind.i64 q)]) ([AObj.dead, AObj.rows false 1 (flA 2 3), AObj.rows true 2 [[AVal.int IntKind.i64 a0, AVal.int IntKind.i64 a1]], AObj.rows false 3 [[AVal.int IntKind.i64 b0, AVal.int IntKind.i64 b1, AVal.slc b 4 2 0 kk none]], AObj.rows true 2 rs])) ∧ (((Option.isSome (takeR 112 s) = true)) ∨ ((Option.isSome (takeR 112 s) = false))))
theorem tAr_wp (a0 a1 b0 b1 : Int) (b : Bool) (kk : Nat) (rs : List (List AVal)) (i len q : Int) (s : ByteArray) {Q : AExit → Regs → AState → Prop} (h : tAr_T a0 a1 b0 b1 b kk rs i len q s Q) : ∃ e rg' σ', TripN Try.prog 4 (loopNo Try.f60 2) (rgtAr i len q) (hinA a0 a1 b0 b1 b kk rs s) e rg' σ' ∧ Q e rg' σ' :=
  Or.elim h.2.2.2 (fun (c0 : (Option.isSome (takeR 112 s) = true)) => ⟨_, _, _, tAr_1 a0 a1 b0 b1 b kk rs i len q s ((h.2.1 c0).2.1) ((h.2.1 c0).1) (c0) (h.1), (h.2.1 c0).2.2⟩) (fun (c1 : (Option.isSome (takeR 112 s) = false)) => ⟨_, _, _, tAr_2 a0 a1 b0 b1 b kk rs i len q s (c1) (h.1), (h.2.2.1 c1)⟩)


theorem tAx_1 (a0 a1 b0 b1 : Int) (b : Bool) (kk : Nat) (rs : List (List AVal)) (i len q : Int) (s : ByteArray)
    (h1 : decide (q < len) = false) :
    TripN Try.prog 4 (loopNo Try.f60 2) (rgtAr i len q) (hinA a0 a1 b0 b1 b kk rs s) (AExit.exit 5) (mkR 117 [(0, AVal.ptr 0 1 0 0), (13, AVal.ptr 3 3 0 2), (15, AVal.slc false 1 1 0 5 none), (16, AVal.int IntKind.i64 5), (17, AVal.int IntKind.i64 i), (97, AVal.int IntKind.i64 len), (98, AVal.int IntKind.i64 q)]) ([AObj.rows true 1 [[AVal.str s]], AObj.rows false 1 (flA 2 3), AObj.rows true 2 [[AVal.int IntKind.i64 a0, AVal.int IntKind.i64 a1]], AObj.rows false 3 [[AVal.int IntKind.i64 b0, AVal.int IntKind.i64 b1, AVal.slc b 4 2 0 kk none]], AObj.rows true 2 rs]) :=
  evalT (st := St.mk (rgtAr i len q) (hinA a0 a1 b0 b1 b kk rs s) ([Dec.br false]) []) (st' := St.mk (mkR 117 [(0, AVal.ptr 0 1 0 0), (13, AVal.ptr 3 3 0 2), (15, AVal.slc false 1 1 0 5 none), (16, AVal.int IntKind.i64 5), (17, AVal.int IntKind.i64 i), (97, AVal.int IntKind.i64 len), (98, AVal.int IntKind.i64 q), (99, AVal.tt false)]) ([AObj.rows true 1 [[AVal.str s]], AObj.rows false 1 (flA 2 3), AObj.rows true 2 [[AVal.int IntKind.i64 a0, AVal.int IntKind.i64 a1]], AObj.rows false 3 [[AVal.int IntKind.i64 b0, AVal.int IntKind.i64 b1, AVal.slc b 4 2 0 kk none]], AObj.rows true 2 rs]) ([]) ((decide (q < len) = false) :: [])) followed (by kernel_rfl) (allP_of ⟨h1, trivial⟩) (keepM 117 [0, 13, 15, 16, 17, 97, 98]) ([0, 1, 2, 3, 4]) (by kernel_rfl) (by kernel_rfl) (by kernel_rfl)

def tAx_T (a0 a1 b0 b1 : Int) (b : Bool) (kk : Nat) (rs : List (List AVal)) (i len q : Int) (s : ByteArray) (Q : AExit → Regs → AState → Prop) : Prop := (decide (q < len) = false) ∧ Q (AExit.exit 5) (mkR 117 [(0, AVal.ptr 0 1 0 0), (13, AVal.ptr 3 3 0 2), (15, AVal.slc false 1 1 0 5 none), (16, AVal.int IntKind.i64 5), (17, AVal.int IntKind.i64 i), (97, AVal.int IntKind.i64 len), (98, AVal.int IntKind.i64 q)]) ([AObj.rows true 1 [[AVal.str s]], AObj.rows false 1 (flA 2 3), AObj.rows true 2 [[AVal.int IntKind.i64 a0, AVal.int IntKind.i64 a1]], AObj.rows false 3 [[AVal.int IntKind.i64 b0, AVal.int IntKind.i64 b1, AVal.slc b 4 2 0 kk none]], AObj.rows true 2 rs])
theorem tAx_wp (a0 a1 b0 b1 : Int) (b : Bool) (kk : Nat) (rs : List (List AVal)) (i len q : Int) (s : ByteArray) {Q : AExit → Regs → AState → Prop} (h : tAx_T a0 a1 b0 b1 b kk rs i len q s Q) : ∃ e rg' σ', TripN Try.prog 4 (loopNo Try.f60 2) (rgtAr i len q) (hinA a0 a1 b0 b1 b kk rs s) e rg' σ' ∧ Q e rg' σ' :=
  ⟨_, _, _, tAx_1 a0 a1 b0 b1 b kk rs i len q s (h.1), h.2⟩


end Go.L12
end

section
set_option linter.unusedVariables false
set_option linter.unusedSimpArgs false
set_option maxRecDepth 100000
namespace Go.L12
open Go Go.Abs Go.Proofs
theorem takeR_rowP {s : ByteArray} {y : List AVal × ByteArray} (h : takeR 112 s = some y) : y.1 = [.str (List.getD y.1 0 .any).toStr, .str (List.getD y.1 1 .any).toStr] := by
  rw [takeR_P] at h
  cases h1 : tS s with
  | none => rw [h1] at h; cases h
  | some x =>
    rw [h1] at h
    simp only [Option.map_some] at h
    cases h2 : tS x.2 with
    | none => rw [h2] at h; cases h
    | some z => rw [h2] at h; cases h; rfl

theorem tA_out (a0 a1 b0 b1 i : Int) (n : Nat) (s : ByteArray) {e : AExit} {rg' : Regs} {σ' : AState}
    (h : TripN Try.prog 4 (.loop (loopNo Try.f60 2)) (rgtAr i (n : Nat) 0) (hinA a0 a1 b0 b1 true 0 [] s) e rg' σ') :
    TripN Try.prog 4 (.loop (loopNo Try.f60 2)) (rgtAr i (n : Nat) 0) (hptA (rA0 a0 a1) (rA1 b0 b1 (.fsl true 0 [] (some 0))) s) e rg' σ' := by
  refine TripN.preObj 3 (.rows false 3 [(rA1 b0 b1 (.fsl true 0 [] (some 0)))]) ?_ (by simp) rfl (fun F w ρ b h => ORel.lead h)
  refine TripN.ext (S := [.rows true 1 [[.str s]], .rows false 1 (flA 2 3), .rows true 2 [rA0 a0 a1], .rows false 3 [(rA1 b0 b1 (.fsl true 0 [] (some 0)))], .rows true 2 []]) ?_ rfl
  refine TripN.weakCell (id := 3) (es' := 3) (rs := [(rA1 b0 b1 (.fsl true 0 [] (some 0)))]) (i := 0) (j := 2) (v' := (.slc true 4 2 0 0 none)) ?_ rfl (Imp.nilSlc _ _ _ _ _)
  exact h
theorem tA_list (a0 a1 b0 b1 i : Int) (n : Nat) (hn : n ≤ 64) (s : ByteArray) :
    (∀ x, seqG (tkG 112) n 0 [] s = some x → TripN Try.prog 4 (.loop (loopNo Try.f60 2)) (rgtAr i (n : Nat) 0) (hptA (rA0 a0 a1) (rA1 b0 b1 (.fsl true 0 [] (some 0))) s) (.exit 5) (rgtAr i (n : Nat) (n : Nat)) (hptA (rA0 a0 a1) (rA1 b0 b1 (listV x.1)) x.2)) ∧
    (seqG (tkG 112) n 0 [] s = none → TripN Try.prog 4 (.loop (loopNo Try.f60 2)) (rgtAr i (n : Nat) 0) (hptA (rA0 a0 a1) (rA1 b0 b1 (.fsl true 0 [] (some 0))) s) (.pan 117) (mkR 117 []) (List.replicate 4 .dead)) := by
  have key := takes_runG (fun rg => rg.length = 117) (P := Try.prog) (N := 4) (c := loopNo Try.f60 2) n (fun q => rgtAr i (n : Nat) (q : Nat)) (fun (u : List (List AVal)) s => hinA a0 a1 b0 b1 u.isEmpty u.length u s) (tkG 112) (fun q u => u.length = q) 5
    (fun u s _ => TripN.wp (tAx_wp a0 a1 b0 b1 u.isEmpty u.length u i (n : Nat) (n : Nat) s ⟨decide_eq_false (by omega), rfl, rfl, rfl⟩))
    (fun q hq u s hI => by
      have w1 : IntKind.wrap .i64 ((q : Int) + 1) = ((q + 1 : Nat) : Int) := by rw [wrapS (by omega) (by omega)]; omega
      have eg : tkG 112 q u s = (takeR 112 s).map fun y => (u ++ [y.1], y.2) := rfl
      cases ho : takeR 112 s with
      | some y =>
        refine ⟨fun x hx => ?_, fun h => (by rw [eg, ho] at h; cases h)⟩
        rw [eg, ho] at hx
        cases hx
        refine ⟨by simp [hI], TripN.wp (tAr_wp a0 a1 b0 b1 u.isEmpty u.length u i (n : Nat) (q : Nat) s ?_)⟩
        unfold tAr_T
        rw [w1, ho]
        simp only [Option.getD_some, Option.isSome_some]
        refine ⟨decide_eq_true (by omega), fun _ => ⟨decide_eq_true (by omega), (by first | exact decide_eq_true rfl | simp), by trivial, by first | rfl | trivial, ?_⟩, fun c => absurd c (by simp), .inl (by trivial)⟩
        rw [← takeR_rowP ho, Bool.and_false, List.length_append, show (u ++ [y.1]).isEmpty = false by cases u <;> rfl]
        rfl
      | none =>
        refine ⟨fun x hx => (by rw [eg, ho] at hx; cases hx), fun _ => TripN.wpG (tAr_wp a0 a1 b0 b1 u.isEmpty u.length u i (n : Nat) (q : Nat) s ?_)⟩
        unfold tAr_T
        rw [w1, ho]
        simp only [Option.isSome_none]
        exact ⟨decide_eq_true (by omega), fun c => absurd c (by simp), fun _ => ⟨by trivial, by kernel_rfl⟩, .inr (by trivial)⟩)
    n 0 (by omega) [] s rfl
  refine ⟨fun x hx => ?_, fun h => ?_⟩
  · have h1 := TripN.freezeCell (key.1 x hx).trip (id := 3) (id2 := 4) (j := 2) (es := 3) (es2 := 2) (off := 0) (len := x.1.length) (nl := x.1.isEmpty) (p := true) (cap := none) (row := (rA1 b0 b1 (.slc x.1.isEmpty 4 2 0 x.1.length none))) (rs := x.1) rfl rfl rfl (by decide) rfl (by omega) (fun q v hv hne => by
      match q, hv, hne with
      | 0, hv, hne => cases hv; rfl
      | 1, hv, hne => cases hv; rfl
      | 2, hv, hne => exact absurd rfl hne
      | q + 3, hv, hne => exact absurd hv (by simp))
    rw [List.drop_zero, List.take_length] at h1
    exact tA_out a0 a1 b0 b1 i n s (h1.post (List.replicate 117 true) (List.range 4) (by kernel_rfl) rfl (by kernel_rfl))
  · obtain ⟨rg', σ', hg, r⟩ := key.2 h
    have q := TripN.panAll (tA_out a0 a1 b0 b1 i n s r.trip)
    rw [hg] at q
    exact q
end Go.L12
end

section
set_option linter.unusedVariables false
set_option maxRecDepth 100000
namespace Go.L12
open Go Go.Abs Go.Proofs
theorem tAN_1 (a0 a1 b0 b1 : Int) (v : AVal) (s s2 : ByteArray)
    (h1 : TripN Try.prog 4 (Code.loop (loopNo Try.f60 2)) (mkR 117 [(0, AVal.ptr 0 1 0 0), (13, AVal.ptr 3 3 0 2), (15, AVal.slc false 1 1 0 5 none), (16, AVal.int IntKind.i64 5), (17, AVal.int IntKind.i64 4), (97, AVal.int IntKind.i64 (tkV s)), (98, AVal.int IntKind.i64 0)]) [AObj.rows true 1 [[AVal.str (tkR s)]], AObj.rows false 1 (flA 2 3), AObj.rows true 2 [[AVal.int IntKind.i64 a0, AVal.int IntKind.i64 a1]], AObj.rows true 3 [[AVal.int IntKind.i64 b0, AVal.int IntKind.i64 b1, AVal.fsl true 0 [] (some 0)]]] (AExit.exit 5) (mkR 117 [(0, AVal.ptr 0 1 0 0), (13, AVal.ptr 3 3 0 2), (15, AVal.slc false 1 1 0 5 none), (16, AVal.int IntKind.i64 5), (17, AVal.int IntKind.i64 4), (97, AVal.int IntKind.i64 (tkV s)), (98, AVal.int IntKind.i64 (tkV s))]) [AObj.rows true 1 [[AVal.str s2]], AObj.rows false 1 (flA 2 3), AObj.rows true 2 [[AVal.int IntKind.i64 a0, AVal.int IntKind.i64 a1]], AObj.rows true 3 [[AVal.int IntKind.i64 b0, AVal.int IntKind.i64 b1, v]]])
    (h2 : tkOk s 64 = true) :
    TripN Try.prog 4 (loopNo Try.f60 0) (rgtA 4) (hptA (rA0 a0 a1) (rA1 b0 b1 (AVal.fsl true 0 [] (some 0))) s) (AExit.normal) (mkR 117 [(0, AVal.ptr 0 1 0 0), (15, AVal.slc false 1 1 0 5 none), (16, AVal.int IntKind.i64 5), (17, AVal.int IntKind.i64 5)]) ([AObj.rows true 1 [[AVal.str s2]], AObj.rows false 1 (flA 2 3), AObj.rows true 2 [[AVal.int IntKind.i64 a0, AVal.int IntKind.i64 a1]], AObj.rows true 3 [[AVal.int IntKind.i64 b0, AVal.int IntKind.i64 b1, v]]]) :=
  evalT (st := St.mk (rgtA 4) (hptA (rA0 a0 a1) (rA1 b0 b1 (AVal.fsl true 0 [] (some 0))) s) ([Dec.br true, Dec.use [0] [AVal.ptr 0 1 0 0, AVal.int IntKind.i64 64] [AObj.rows true 1 [[AVal.str s]]] (AVal.int IntKind.i64 (tkV s)) [AObj.rows true 1 [[AVal.str (tkR s)]]], Dec.compact (keepM 117 [0, 13, 15, 16, 17, 97, 98]) [0, 1, 2, 3], Dec.loop (AExit.exit 5) (rgtAr 4 (tkV s) (tkV s)) (hptA (rA0 a0 a1) (rA1 b0 b1 v) s2)]) []) (st' := St.mk (mkR 117 [(0, AVal.ptr 0 1 0 0), (13, AVal.ptr 3 3 0 2), (15, AVal.slc false 1 1 0 5 none), (16, AVal.int IntKind.i64 5), (17, AVal.int IntKind.i64 5), (97, AVal.int IntKind.i64 (tkV s)), (98, AVal.int IntKind.i64 (tkV s)), (116, AVal.int IntKind.i64 5)]) ([AObj.rows true 1 [[AVal.str s2]], AObj.rows false 1 (flA 2 3), AObj.rows true 2 [[AVal.int IntKind.i64 a0, AVal.int IntKind.i64 a1]], AObj.rows true 3 [[AVal.int IntKind.i64 b0, AVal.int IntKind.i64 b1, v]]]) ([]) ((Owed.loop (owed Try.prog 4) (loopNo Try.f60 2) (mkR 117 [(0, AVal.ptr 0 1 0 0), (13, AVal.ptr 3 3 0 2), (15, AVal.slc false 1 1 0 5 none), (16, AVal.int IntKind.i64 5), (17, AVal.int IntKind.i64 4), (97, AVal.int IntKind.i64 (tkV s)), (98, AVal.int IntKind.i64 0)]) [AObj.rows true 1 [[AVal.str (tkR s)]], AObj.rows false 1 (flA 2 3), AObj.rows true 2 [[AVal.int IntKind.i64 a0, AVal.int IntKind.i64 a1]], AObj.rows true 3 [[AVal.int IntKind.i64 b0, AVal.int IntKind.i64 b1, AVal.fsl true 0 [] (some 0)]]] (AExit.exit 5) (mkR 117 [(0, AVal.ptr 0 1 0 0), (13, AVal.ptr 3 3 0 2), (15, AVal.slc false 1 1 0 5 none), (16, AVal.int IntKind.i64 5), (17, AVal.int IntKind.i64 4), (97, AVal.int IntKind.i64 (tkV s)), (98, AVal.int IntKind.i64 (tkV s))]) [AObj.rows true 1 [[AVal.str s2]], AObj.rows false 1 (flA 2 3), AObj.rows true 2 [[AVal.int IntKind.i64 a0, AVal.int IntKind.i64 a1]], AObj.rows true 3 [[AVal.int IntKind.i64 b0, AVal.int IntKind.i64 b1, v]]]) :: ((Owed.use (owed Try.prog 4) 66 [0] [AVal.ptr 0 1 0 0, AVal.int IntKind.i64 64] [AObj.rows true 1 [[AVal.str s]], AObj.rows false 1 (flA 2 3), AObj.rows true 2 [[AVal.int IntKind.i64 a0, AVal.int IntKind.i64 a1]], AObj.rows true 3 [[AVal.int IntKind.i64 b0, AVal.int IntKind.i64 b1, AVal.fsl true 0 [] (some 0)]]] [AVal.ptr 0 1 0 0, AVal.int IntKind.i64 64] [AObj.rows true 1 [[AVal.str s]]] (AVal.int IntKind.i64 (tkV s)) [AObj.rows true 1 [[AVal.str (tkR s)]]]) :: (tr 4 ++ [])))) followed (by kernel_rfl) (allP_of ⟨h1, ⟨⟨(@Go.L12.taken_ok (s) (64) h2), rfl, rfl, rfl⟩, (trC 4 trivial)⟩⟩) (keepM 117 [0, 15, 16, 17]) ([0, 1, 2, 3]) (by kernel_rfl) (by kernel_rfl) (by kernel_rfl)

theorem tAN_2 (a0 a1 b0 b1 : Int) (v : AVal) (s s2 : ByteArray)
    (h1 : tkOk s 64 = false) :
    TripN Try.prog 4 (loopNo Try.f60 0) (rgtA 4) (hptA (rA0 a0 a1) (rA1 b0 b1 (AVal.fsl true 0 [] (some 0))) s) (AExit.pan 117) (mkR 117 [(0, AVal.ptr 0 1 0 0), (15, AVal.slc false 1 1 0 5 none), (16, AVal.int IntKind.i64 5), (17, AVal.int IntKind.i64 4)]) ([AObj.dead, AObj.rows false 1 (flA 2 3), AObj.rows true 2 [[AVal.int IntKind.i64 a0, AVal.int IntKind.i64 a1]], AObj.rows true 3 [[AVal.int IntKind.i64 b0, AVal.int IntKind.i64 b1, AVal.fsl true 0 [] (some 0)]]]) :=
  evalT (st := St.mk (rgtA 4) (hptA (rA0 a0 a1) (rA1 b0 b1 (AVal.fsl true 0 [] (some 0))) s) ([Dec.br true, Dec.use [0] [AVal.ptr 0 1 0 0, AVal.int IntKind.i64 64] [AObj.rows true 1 [[AVal.str s]]] (AVal.pan 117) [AObj.dead]]) []) (st' := St.mk (mkR 117 [(0, AVal.ptr 0 1 0 0), (5, AVal.iface 112 (AVal.ptr 3 3 0 2)), (13, AVal.ptr 3 3 0 2), (15, AVal.slc false 1 1 0 5 none), (16, AVal.int IntKind.i64 5), (17, AVal.int IntKind.i64 4), (18, AVal.tt true), (19, AVal.ptr 1 1 4 0), (20, AVal.iface 112 (AVal.ptr 3 3 0 2)), (21, AVal.iface 112 (AVal.ptr 3 3 0 2)), (22, AVal.tuple [AVal.nilp, AVal.tt false]), (23, AVal.tt false), (24, AVal.nilp), (29, AVal.tuple [AVal.nilp, AVal.tt false]), (30, AVal.tt false), (31, AVal.nilp), (36, AVal.tuple [AVal.nilp, AVal.tt false]), (37, AVal.tt false), (38, AVal.nilp), (44, AVal.tuple [AVal.nilp, AVal.tt false]), (45, AVal.tt false), (46, AVal.nilp), (70, AVal.tuple [AVal.nilp, AVal.tt false]), (71, AVal.tt false), (72, AVal.nilp), (93, AVal.tuple [AVal.ptr 3 3 0 2, AVal.tt true]), (94, AVal.tt true), (95, AVal.ptr 3 3 0 2), (96, AVal.ptr 0 1 0 0)]) ([AObj.dead, AObj.rows false 1 (flA 2 3), AObj.rows true 2 [[AVal.int IntKind.i64 a0, AVal.int IntKind.i64 a1]], AObj.rows true 3 [[AVal.int IntKind.i64 b0, AVal.int IntKind.i64 b1, AVal.fsl true 0 [] (some 0)]]]) ([]) ((Owed.use (owed Try.prog 4) 66 [0] [AVal.ptr 0 1 0 0, AVal.int IntKind.i64 64] [AObj.rows true 1 [[AVal.str s]], AObj.rows false 1 (flA 2 3), AObj.rows true 2 [[AVal.int IntKind.i64 a0, AVal.int IntKind.i64 a1]], AObj.rows true 3 [[AVal.int IntKind.i64 b0, AVal.int IntKind.i64 b1, AVal.fsl true 0 [] (some 0)]]] [AVal.ptr 0 1 0 0, AVal.int IntKind.i64 64] [AObj.rows true 1 [[AVal.str s]]] (AVal.pan 117) [AObj.dead]) :: (tr 4 ++ []))) followed (by kernel_rfl) (allP_of ⟨⟨(@Go.L12.taken_no (s) (64) h1), rfl, rfl, rfl⟩, (trC 4 trivial)⟩) (keepM 117 [0, 15, 16, 17]) ([0, 1, 2, 3]) (by kernel_rfl) (by kernel_rfl) (by kernel_rfl)

def tAN_T (a0 a1 b0 b1 : Int) (v : AVal) (s s2 : ByteArray) (Q : AExit → Regs → AState → Prop) : Prop := ((((tkOk s 64 = true)) → (TripN Try.prog 4 (Code.loop (loopNo Try.f60 2)) (mkR 117 [(0, AVal.ptr 0 1 0 0), (13, AVal.ptr 3 3 0 2), (15, AVal.slc false 1 1 0 5 none), (16, AVal.int IntKind.i64 5), (17, AVal.int IntKind.i64 4), (97, AVal.int IntKind.i64 (tkV s)), (98, AVal.int IntKind.i64 0)]) [AObj.rows true 1 [[AVal.str (tkR s)]], AObj.rows false 1 (flA 2 3), AObj.rows true 2 [[AVal.int IntKind.i64 a0, AVal.int IntKind.i64 a1]], AObj.rows true 3 [[AVal.int IntKind.i64 b0, AVal.int IntKind.i64 b1, AVal.fsl true 0 [] (some 0)]]] (AExit.exit 5) (mkR 117 [(0, AVal.ptr 0 1 0 0), (13, AVal.ptr 3 3 0 2), (15, AVal.slc false 1 1 0 5 none), (16, AVal.int IntKind.i64 5), (17, AVal.int IntKind.i64 4), (97, AVal.int IntKind.i64 (tkV s)), (98, AVal.int IntKind.i64 (tkV s))]) [AObj.rows true 1 [[AVal.str s2]], AObj.rows false 1 (flA 2 3), AObj.rows true 2 [[AVal.int IntKind.i64 a0, AVal.int IntKind.i64 a1]], AObj.rows true 3 [[AVal.int IntKind.i64 b0, AVal.int IntKind.i64 b1, v]]]) ∧ Q (AExit.normal) (mkR 117 [(0, AVal.ptr 0 1 0 0), (15, AVal.slc false 1 1 0 5 none), (16, AVal.int IntKind.i64 5), (17, AVal.int IntKind.i64 5)]) ([AObj.rows true 1 [[AVal.str s2]], AObj.rows false 1 (flA 2 3), AObj.rows true 2 [[AVal.int IntKind.i64 a0, AVal.int IntKind.i64 a1]], AObj.rows true 3 [[AVal.int IntKind.i64 b0, AVal.int IntKind.i64 b1, v]]])) ∧ (((tkOk s 64 = false)) → Q (AExit.pan 117) (mkR 117 [(0, AVal.ptr 0 1 0 0), (15, AVal.slc false 1 1 0 5 none), (16, AVal.int IntKind.i64 5), (17, AVal.int IntKind.i64 4)]) ([AObj.dead, AObj.rows false 1 (flA 2 3), AObj.rows true 2 [[AVal.int IntKind.i64 a0, AVal.int IntKind.i64 a1]], AObj.rows true 3 [[AVal.int IntKind.i64 b0, AVal.int IntKind.i64 b1, AVal.fsl true 0 [] (some 0)]]])) ∧ (((tkOk s 64 = true)) ∨ ((tkOk s 64 = false))))
theorem tAN_wp (a0 a1 b0 b1 : Int) (v : AVal) (s s2 : ByteArray) {Q : AExit → Regs → AState → Prop} (h : tAN_T a0 a1 b0 b1 v s s2 Q) : ∃ e rg' σ', TripN Try.prog 4 (loopNo Try.f60 0) (rgtA 4) (hptA (rA0 a0 a1) (rA1 b0 b1 (AVal.fsl true 0 [] (some 0))) s) e rg' σ' ∧ Q e rg' σ' :=
  Or.elim h.2.2 (fun (c0 : (tkOk s 64 = true)) => ⟨_, _, _, tAN_1 a0 a1 b0 b1 v s s2 ((h.1 c0).1) (c0), (h.1 c0).2⟩) (fun (c1 : (tkOk s 64 = false)) => ⟨_, _, _, tAN_2 a0 a1 b0 b1 v s s2 (c1), (h.2.1 c1)⟩)


theorem tANn_1 (a0 a1 b0 b1 : Int) (s : ByteArray)
    (h1 : TripN Try.prog 4 (Code.loop (loopNo Try.f60 2)) (mkR 117 [(0, AVal.ptr 0 1 0 0), (13, AVal.ptr 3 3 0 2), (15, AVal.slc false 1 1 0 5 none), (16, AVal.int IntKind.i64 5), (17, AVal.int IntKind.i64 4), (97, AVal.int IntKind.i64 (tkV s)), (98, AVal.int IntKind.i64 0)]) [AObj.rows true 1 [[AVal.str (tkR s)]], AObj.rows false 1 (flA 2 3), AObj.rows true 2 [[AVal.int IntKind.i64 a0, AVal.int IntKind.i64 a1]], AObj.rows true 3 [[AVal.int IntKind.i64 b0, AVal.int IntKind.i64 b1, AVal.fsl true 0 [] (some 0)]]] (AExit.pan 117) (mkR 117 []) [AObj.dead, AObj.dead, AObj.dead, AObj.dead])
    (h2 : tkOk s 64 = true) :
    TripN Try.prog 4 (loopNo Try.f60 0) (rgtA 4) (hptA (rA0 a0 a1) (rA1 b0 b1 (AVal.fsl true 0 [] (some 0))) s) (AExit.pan 117) (mkR 117 []) ([AObj.dead, AObj.dead, AObj.dead, AObj.dead]) :=
  evalT (st := St.mk (rgtA 4) (hptA (rA0 a0 a1) (rA1 b0 b1 (AVal.fsl true 0 [] (some 0))) s) ([Dec.br true, Dec.use [0] [AVal.ptr 0 1 0 0, AVal.int IntKind.i64 64] [AObj.rows true 1 [[AVal.str s]]] (AVal.int IntKind.i64 (tkV s)) [AObj.rows true 1 [[AVal.str (tkR s)]]], Dec.compact (keepM 117 [0, 13, 15, 16, 17, 97, 98]) [0, 1, 2, 3], Dec.loop (AExit.pan 117) (mkR 117 []) (List.replicate 4 AObj.dead)]) []) (st' := St.mk (mkR 117 []) ([AObj.dead, AObj.dead, AObj.dead, AObj.dead]) ([]) ((Owed.loop (owed Try.prog 4) (loopNo Try.f60 2) (mkR 117 [(0, AVal.ptr 0 1 0 0), (13, AVal.ptr 3 3 0 2), (15, AVal.slc false 1 1 0 5 none), (16, AVal.int IntKind.i64 5), (17, AVal.int IntKind.i64 4), (97, AVal.int IntKind.i64 (tkV s)), (98, AVal.int IntKind.i64 0)]) [AObj.rows true 1 [[AVal.str (tkR s)]], AObj.rows false 1 (flA 2 3), AObj.rows true 2 [[AVal.int IntKind.i64 a0, AVal.int IntKind.i64 a1]], AObj.rows true 3 [[AVal.int IntKind.i64 b0, AVal.int IntKind.i64 b1, AVal.fsl true 0 [] (some 0)]]] (AExit.pan 117) (mkR 117 []) [AObj.dead, AObj.dead, AObj.dead, AObj.dead]) :: ((Owed.use (owed Try.prog 4) 66 [0] [AVal.ptr 0 1 0 0, AVal.int IntKind.i64 64] [AObj.rows true 1 [[AVal.str s]], AObj.rows false 1 (flA 2 3), AObj.rows true 2 [[AVal.int IntKind.i64 a0, AVal.int IntKind.i64 a1]], AObj.rows true 3 [[AVal.int IntKind.i64 b0, AVal.int IntKind.i64 b1, AVal.fsl true 0 [] (some 0)]]] [AVal.ptr 0 1 0 0, AVal.int IntKind.i64 64] [AObj.rows true 1 [[AVal.str s]]] (AVal.int IntKind.i64 (tkV s)) [AObj.rows true 1 [[AVal.str (tkR s)]]]) :: (tr 4 ++ [])))) followed (by kernel_rfl) (allP_of ⟨h1, ⟨⟨(@Go.L12.taken_ok (s) (64) h2), rfl, rfl, rfl⟩, (trC 4 trivial)⟩⟩) (keepM 117 [0, 15, 16, 17]) ([0, 1, 2, 3]) (by kernel_rfl) (by kernel_rfl) (by kernel_rfl)

theorem tANn_2 (a0 a1 b0 b1 : Int) (s : ByteArray)
    (h1 : tkOk s 64 = false) :
    TripN Try.prog 4 (loopNo Try.f60 0) (rgtA 4) (hptA (rA0 a0 a1) (rA1 b0 b1 (AVal.fsl true 0 [] (some 0))) s) (AExit.pan 117) (mkR 117 [(0, AVal.ptr 0 1 0 0), (15, AVal.slc false 1 1 0 5 none), (16, AVal.int IntKind.i64 5), (17, AVal.int IntKind.i64 4)]) ([AObj.dead, AObj.rows false 1 (flA 2 3), AObj.rows true 2 [[AVal.int IntKind.i64 a0, AVal.int IntKind.i64 a1]], AObj.rows true 3 [[AVal.int IntKind.i64 b0, AVal.int IntKind.i64 b1, AVal.fsl true 0 [] (some 0)]]]) :=
  evalT (st := St.mk (rgtA 4) (hptA (rA0 a0 a1) (rA1 b0 b1 (AVal.fsl true 0 [] (some 0))) s) ([Dec.br true, Dec.use [0] [AVal.ptr 0 1 0 0, AVal.int IntKind.i64 64] [AObj.rows true 1 [[AVal.str s]]] (AVal.pan 117) [AObj.dead]]) []) (st' := St.mk (mkR 117 [(0, AVal.ptr 0 1 0 0), (5, AVal.iface 112 (AVal.ptr 3 3 0 2)), (13, AVal.ptr 3 3 0 2), (15, AVal.slc false 1 1 0 5 none), (16, AVal.int IntKind.i64 5), (17, AVal.int IntKind.i64 4), (18, AVal.tt true), (19, AVal.ptr 1 1 4 0), (20, AVal.iface 112 (AVal.ptr 3 3 0 2)), (21, AVal.iface 112 (AVal.ptr 3 3 0 2)), (22, AVal.tuple [AVal.nilp, AVal.tt false]), (23, AVal.tt false), (24, AVal.nilp), (29, AVal.tuple [AVal.nilp, AVal.tt false]), (30, AVal.tt false), (31, AVal.nilp), (36, AVal.tuple [AVal.nilp, AVal.tt false]), (37, AVal.tt false), (38, AVal.nilp), (44, AVal.tuple [AVal.nilp, AVal.tt false]), (45, AVal.tt false), (46, AVal.nilp), (70, AVal.tuple [AVal.nilp, AVal.tt false]), (71, AVal.tt false), (72, AVal.nilp), (93, AVal.tuple [AVal.ptr 3 3 0 2, AVal.tt true]), (94, AVal.tt true), (95, AVal.ptr 3 3 0 2), (96, AVal.ptr 0 1 0 0)]) ([AObj.dead, AObj.rows false 1 (flA 2 3), AObj.rows true 2 [[AVal.int IntKind.i64 a0, AVal.int IntKind.i64 a1]], AObj.rows true 3 [[AVal.int IntKind.i64 b0, AVal.int IntKind.i64 b1, AVal.fsl true 0 [] (some 0)]]]) ([]) ((Owed.use (owed Try.prog 4) 66 [0] [AVal.ptr 0 1 0 0, AVal.int IntKind.i64 64] [AObj.rows true 1 [[AVal.str s]], AObj.rows false 1 (flA 2 3), AObj.rows true 2 [[AVal.int IntKind.i64 a0, AVal.int IntKind.i64 a1]], AObj.rows true 3 [[AVal.int IntKind.i64 b0, AVal.int IntKind.i64 b1, AVal.fsl true 0 [] (some 0)]]] [AVal.ptr 0 1 0 0, AVal.int IntKind.i64 64] [AObj.rows true 1 [[AVal.str s]]] (AVal.pan 117) [AObj.dead]) :: (tr 4 ++ []))) followed (by kernel_rfl) (allP_of ⟨⟨(@Go.L12.taken_no (s) (64) h1), rfl, rfl, rfl⟩, (trC 4 trivial)⟩) (keepM 117 [0, 15, 16, 17]) ([0, 1, 2, 3]) (by kernel_rfl) (by kernel_rfl) (by kernel_rfl)

def tANn_T (a0 a1 b0 b1 : Int) (s : ByteArray) (Q : AExit → Regs → AState → Prop) : Prop := ((((tkOk s 64 = true)) → (TripN Try.prog 4 (Code.loop (loopNo Try.f60 2)) (mkR 117 [(0, AVal.ptr 0 1 0 0), (13, AVal.ptr 3 3 0 2), (15, AVal.slc false 1 1 0 5 none), (16, AVal.int IntKind.i64 5), (17, AVal.int IntKind.i64 4), (97, AVal.int IntKind.i64 (tkV s)), (98, AVal.int IntKind.i64 0)]) [AObj.rows true 1 [[AVal.str (tkR s)]], AObj.rows false 1 (flA 2 3), AObj.rows true 2 [[AVal.int IntKind.i64 a0, AVal.int IntKind.i64 a1]], AObj.rows true 3 [[AVal.int IntKind.i64 b0, AVal.int IntKind.i64 b1, AVal.fsl true 0 [] (some 0)]]] (AExit.pan 117) (mkR 117 []) [AObj.dead, AObj.dead, AObj.dead, AObj.dead]) ∧ Q (AExit.pan 117) (mkR 117 []) ([AObj.dead, AObj.dead, AObj.dead, AObj.dead])) ∧ (((tkOk s 64 = false)) → Q (AExit.pan 117) (mkR 117 [(0, AVal.ptr 0 1 0 0), (15, AVal.slc false 1 1 0 5 none), (16, AVal.int IntKind.i64 5), (17, AVal.int IntKind.i64 4)]) ([AObj.dead, AObj.rows false 1 (flA 2 3), AObj.rows true 2 [[AVal.int IntKind.i64 a0, AVal.int IntKind.i64 a1]], AObj.rows true 3 [[AVal.int IntKind.i64 b0, AVal.int IntKind.i64 b1, AVal.fsl true 0 [] (some 0)]]])) ∧ (((tkOk s 64 = true)) ∨ ((tkOk s 64 = false))))
theorem tANn_wp (a0 a1 b0 b1 : Int) (s : ByteArray) {Q : AExit → Regs → AState → Prop} (h : tANn_T a0 a1 b0 b1 s Q) : ∃ e rg' σ', TripN Try.prog 4 (loopNo Try.f60 0) (rgtA 4) (hptA (rA0 a0 a1) (rA1 b0 b1 (AVal.fsl true 0 [] (some 0))) s) e rg' σ' ∧ Q e rg' σ' :=
  Or.elim h.2.2 (fun (c0 : (tkOk s 64 = true)) => ⟨_, _, _, tANn_1 a0 a1 b0 b1 s ((h.1 c0).1) (c0), (h.1 c0).2⟩) (fun (c1 : (tkOk s 64 = false)) => ⟨_, _, _, tANn_2 a0 a1 b0 b1 s (c1), (h.2.1 c1)⟩)


end Go.L12
end

section
set_option linter.unusedVariables false
set_option linter.unusedSimpArgs false
set_option maxRecDepth 100000
namespace Go.L12
open Go Go.Abs Go.Proofs
theorem tAN_r (a0 a1 b0 b1 : Int) (s : ByteArray) :
    (∀ x, tL 112 s = some x → TripN Try.prog 4 (loopNo Try.f60 0) (rgtA 4) (hptA (rA0 a0 a1) (rA1 b0 b1 (.fsl true 0 [] (some 0))) s) .normal (rgtA 5) (hptA (rA0 a0 a1) (rA1 b0 b1 (listV x.1)) x.2)) ∧
    (tL 112 s = none → ∃ rg' σ', TripN Try.prog 4 (loopNo Try.f60 0) (rgtA 4) (hptA (rA0 a0 a1) (rA1 b0 b1 (.fsl true 0 [] (some 0))) s) (.pan 117) rg' σ') := by
  have emx : ((mx 112 : Nat) : Int) = 64 := rfl
  unfold tL tI
  rw [emx]
  cases ho : tkOk s 64 with
  | true =>
    rw [if_pos rfl]
    have hv := (of_decide_eq_true ho).2
    have hv : tkV s ≤ 64 := hv
    have h0 := tkV0 s
    have en : (((tkV s).toNat : Nat) : Int) = tkV s := Int.toNat_of_nonneg h0
    obtain ⟨k1, k2⟩ := tA_list a0 a1 b0 b1 4 (tkV s).toNat (by omega) (tkR s)
    rw [en] at k1 k2
    dsimp only
    refine ⟨fun x hx => ?_, fun hx => ?_⟩
    · refine TripN.wp (tAN_wp a0 a1 b0 b1 (listV x.1) s x.2 ?_)
      unfold tAN_T
      exact ⟨fun _ => ⟨k1 x hx, by trivial, by trivial, by trivial⟩, fun c => absurd c (by rw [ho]; simp), .inl ho⟩
    · refine TripN.wpE (tANn_wp a0 a1 b0 b1 s ?_)
      unfold tANn_T
      exact ⟨fun _ => ⟨k2 hx, by trivial⟩, fun c => absurd c (by rw [ho]; simp), .inl ho⟩
  | false =>
    rw [if_neg (by simp)]
    refine ⟨fun x hx => (by cases hx), fun hx => ?_⟩
    refine TripN.wpE (tANn_wp a0 a1 b0 b1 s ?_)
    unfold tANn_T
    exact ⟨fun c => absurd c (by rw [ho]; simp), fun _ => by trivial, .inr ho⟩
end Go.L12
end

section
set_option linter.unusedVariables false
set_option linter.unusedSimpArgs false
set_option maxRecDepth 100000
namespace Go.L12
open Go Go.Abs Go.Proofs

def FA : List (Nat × Nat × Nat) := [(100, 0, 0), (100, 0, 1), (102, 1, 0), (100, 1, 1), (112, 1, 2)]
abbrev flAt : List (List AVal) := (flA 2 3)
def objA (u0 u1 : List AVal) (o : Nat) : List AVal := if o = 0 then u0 else u1
theorem tAI0_r (u0 u1 : List AVal) (i j : Nat) (hi : i < 5) (hfl : asType Try.prog 20 [List.getD (List.getD flAt i []) 0 .any] = .iface 100 (.ptr 2 2 0 j)) (hj : j + 1 ≤ 2) (s : ByteArray) :
    (∀ x, takeF 100 s = some x → TripN Try.prog 4 (loopNo Try.f60 0) (rgtA (i : Nat)) (hptA u0 u1 s) .normal (rgtA ((i + 1 : Nat) : Int)) (hptA (u0.set j x.1) u1 x.2)) ∧ (takeF 100 s = none → ∃ rg' σ', TripN Try.prog 4 (loopNo Try.f60 0) (rgtA (i : Nat)) (hptA u0 u1 s) (.pan 117) rg' σ') := by
  have w1 : IntKind.wrap .i64 ((i : Int) + 1) = ((i + 1 : Nat) : Int) := by rw [wrapS (by omega) (by omega)]; omega
  have h0 : 0 ≤ tkV s := Int.natCast_nonneg _
  have e : takeF 100 s = (tI 1099511627776 s).map fun x => (.int .i64 x.1, x.2) := rfl
  rw [e]
  unfold tI
  cases ho : tkOk s 1099511627776 with
  | true =>
    refine ⟨fun x hx => ?_, fun h => by cases h⟩
    cases hx
    refine TripN.wp (tAI0_wp u0 u1 i j s ?_)
    unfold tAI0_T
    rw [Int.toNat_natCast, w1]
    exact ⟨decide_eq_true (by omega), decide_eq_true (by omega), decide_eq_true (by omega), hfl, fun _ => ⟨decide_eq_true (by omega), rfl, rfl, rfl⟩, fun c => absurd c (by rw [ho]; simp), .inl ho⟩
  | false =>
    refine ⟨fun x hx => (by cases hx), fun h => TripN.wpE (tAI0_wp u0 u1 i j s ?_)⟩
    unfold tAI0_T
    rw [Int.toNat_natCast, w1]
    exact ⟨decide_eq_true (by omega), decide_eq_true (by omega), decide_eq_true (by omega), hfl, fun c => absurd c (by rw [ho]; simp), fun _ => rfl, .inr ho⟩

theorem tAE1_r (u0 u1 : List AVal) (i j : Nat) (hi : i < 5) (hfl : asType Try.prog 20 [List.getD (List.getD flAt i []) 0 .any] = .iface 102 (.ptr 3 3 0 j)) (hj : j + 1 ≤ 3) (s : ByteArray) :
    (∀ x, takeF 102 s = some x → TripN Try.prog 4 (loopNo Try.f60 0) (rgtA (i : Nat)) (hptA u0 u1 s) .normal (rgtA ((i + 1 : Nat) : Int)) (hptA u0 (u1.set j x.1) x.2)) ∧ (takeF 102 s = none → ∃ rg' σ', TripN Try.prog 4 (loopNo Try.f60 0) (rgtA (i : Nat)) (hptA u0 u1 s) (.pan 117) rg' σ') := by
  have w1 : IntKind.wrap .i64 ((i : Int) + 1) = ((i + 1 : Nat) : Int) := by rw [wrapS (by omega) (by omega)]; omega
  have h0 : 0 ≤ tkV s := Int.natCast_nonneg _
  have e : takeF 102 s = (tI 1099511627776 s).map fun x => (.int .i64 x.1, x.2) := rfl
  rw [e]
  unfold tI
  cases ho : tkOk s 1099511627776 with
  | true =>
    refine ⟨fun x hx => ?_, fun h => by cases h⟩
    cases hx
    refine TripN.wp (tAE1_wp u0 u1 i j s ?_)
    unfold tAE1_T
    rw [Int.toNat_natCast, w1]
    exact ⟨decide_eq_true (by omega), decide_eq_true (by omega), decide_eq_true (by omega), hfl, fun _ => ⟨decide_eq_true (by omega), rfl, rfl, rfl⟩, fun c => absurd c (by rw [ho]; simp), .inl ho⟩
  | false =>
    refine ⟨fun x hx => (by cases hx), fun h => TripN.wpE (tAE1_wp u0 u1 i j s ?_)⟩
    unfold tAE1_T
    rw [Int.toNat_natCast, w1]
    exact ⟨decide_eq_true (by omega), decide_eq_true (by omega), decide_eq_true (by omega), hfl, fun c => absurd c (by rw [ho]; simp), fun _ => rfl, .inr ho⟩

theorem tAI1_r (u0 u1 : List AVal) (i j : Nat) (hi : i < 5) (hfl : asType Try.prog 20 [List.getD (List.getD flAt i []) 0 .any] = .iface 100 (.ptr 3 3 0 j)) (hj : j + 1 ≤ 3) (s : ByteArray) :
    (∀ x, takeF 100 s = some x → TripN Try.prog 4 (loopNo Try.f60 0) (rgtA (i : Nat)) (hptA u0 u1 s) .normal (rgtA ((i + 1 : Nat) : Int)) (hptA u0 (u1.set j x.1) x.2)) ∧ (takeF 100 s = none → ∃ rg' σ', TripN Try.prog 4 (loopNo Try.f60 0) (rgtA (i : Nat)) (hptA u0 u1 s) (.pan 117) rg' σ') := by
  have w1 : IntKind.wrap .i64 ((i : Int) + 1) = ((i + 1 : Nat) : Int) := by rw [wrapS (by omega) (by omega)]; omega
  have h0 : 0 ≤ tkV s := Int.natCast_nonneg _
  have e : takeF 100 s = (tI 1099511627776 s).map fun x => (.int .i64 x.1, x.2) := rfl
  rw [e]
  unfold tI
  cases ho : tkOk s 1099511627776 with
  | true =>
    refine ⟨fun x hx => ?_, fun h => by cases h⟩
    cases hx
    refine TripN.wp (tAI1_wp u0 u1 i j s ?_)
    unfold tAI1_T
    rw [Int.toNat_natCast, w1]
    exact ⟨decide_eq_true (by omega), decide_eq_true (by omega), decide_eq_true (by omega), hfl, fun _ => ⟨decide_eq_true (by omega), rfl, rfl, rfl⟩, fun c => absurd c (by rw [ho]; simp), .inl ho⟩
  | false =>
    refine ⟨fun x hx => (by cases hx), fun h => TripN.wpE (tAI1_wp u0 u1 i j s ?_)⟩
    unfold tAI1_T
    rw [Int.toNat_natCast, w1]
    exact ⟨decide_eq_true (by omega), decide_eq_true (by omega), decide_eq_true (by omega), hfl, fun c => absurd c (by rw [ho]; simp), fun _ => rfl, .inr ho⟩

def gtA (i : Nat) (u : List AVal × List AVal) (s : ByteArray) : Option ((List AVal × List AVal) × ByteArray) := (takeF (FA.getD i (0, 0, 0)).1 s).map fun x => (if (FA.getD i (0, 0, 0)).2.1 = 0 then (u.1.set (FA.getD i (0, 0, 0)).2.2 x.1, u.2) else (u.1, u.2.set (FA.getD i (0, 0, 0)).2.2 x.1), x.2)
def ivA (i : Nat) (u : List AVal × List AVal) : Prop := ∃ (a0 a1 b0 b1 : Int) (v : AVal), u = (rA0 a0 a1, rA1 b0 b1 v) ∧ (i ≤ 4 → v = .fsl true 0 [] (some 0))
theorem takeF_I2 {t : Nat} (ht : t = 100 ∨ t = 102) {s : ByteArray} {x : AVal × ByteArray} (h : takeF t s = some x) : ∃ n, x.1 = .int .i64 n := by
  have h : (tI 1099511627776 s).map (fun x => ((AVal.int .i64 x.1), x.2)) = some x := by rcases ht with rfl | rfl <;> exact h
  rw [Option.map_eq_some_iff] at h
  obtain ⟨y, _, rfl⟩ := h
  exact ⟨_, rfl⟩
theorem tA_round : ∀ i, i < 5 → ∀ (u : List AVal × List AVal) (s : ByteArray), ivA i u → (∀ x, gtA i u s = some x → ivA (i + 1) x.1 ∧ TripN Try.prog 4 (loopNo Try.f60 0) (rgtA (i : Nat)) (hptA u.1 u.2 s) .normal (rgtA ((i + 1 : Nat) : Int)) (hptA x.1.1 x.1.2 x.2)) ∧ (gtA i u s = none → ∃ rg' σ', TripN Try.prog 4 (loopNo Try.f60 0) (rgtA (i : Nat)) (hptA u.1 u.2 s) (.pan 117) rg' σ')
  | 0, hi, u, s, hI => by
    obtain ⟨h1, h2⟩ := tAI0_r u.1 u.2 0 0 hi (by kernel_rfl) (by omega) s
    have e : gtA 0 u s = (takeF 100 s).map fun x => ((u.1.set 0 x.1, u.2), x.2) := rfl
    rw [e]
    cases ht : takeF 100 s with
    | none => exact ⟨fun x hx => (by cases hx), fun _ => h2 ht⟩
    | some x =>
      refine ⟨fun y hy => ?_, fun h => by cases h⟩
      cases hy
      refine ⟨?_, h1 x ht⟩
      obtain ⟨a0, a1, b0, b1, v, rfl, hv⟩ := hI
      obtain ⟨z, hz⟩ := takeF_I2 (.inl rfl) ht
      refine ⟨z, a1, b0, b1, v, ?_, fun h => hv (by omega)⟩
      dsimp only
      rw [hz]; rfl
  | 1, hi, u, s, hI => by
    obtain ⟨h1, h2⟩ := tAI0_r u.1 u.2 1 1 hi (by kernel_rfl) (by omega) s
    have e : gtA 1 u s = (takeF 100 s).map fun x => ((u.1.set 1 x.1, u.2), x.2) := rfl
    rw [e]
    cases ht : takeF 100 s with
    | none => exact ⟨fun x hx => (by cases hx), fun _ => h2 ht⟩
    | some x =>
      refine ⟨fun y hy => ?_, fun h => by cases h⟩
      cases hy
      refine ⟨?_, h1 x ht⟩
      obtain ⟨a0, a1, b0, b1, v, rfl, hv⟩ := hI
      obtain ⟨z, hz⟩ := takeF_I2 (.inl rfl) ht
      refine ⟨a0, z, b0, b1, v, ?_, fun h => hv (by omega)⟩
      dsimp only
      rw [hz]; rfl
  | 2, hi, u, s, hI => by
    obtain ⟨h1, h2⟩ := tAE1_r u.1 u.2 2 0 hi (by kernel_rfl) (by omega) s
    have e : gtA 2 u s = (takeF 102 s).map fun x => ((u.1, u.2.set 0 x.1), x.2) := rfl
    rw [e]
    cases ht : takeF 102 s with
    | none => exact ⟨fun x hx => (by cases hx), fun _ => h2 ht⟩
    | some x =>
      refine ⟨fun y hy => ?_, fun h => by cases h⟩
      cases hy
      refine ⟨?_, h1 x ht⟩
      obtain ⟨a0, a1, b0, b1, v, rfl, hv⟩ := hI
      obtain ⟨z, hz⟩ := takeF_I2 (.inr rfl) ht
      refine ⟨a0, a1, z, b1, v, ?_, fun h => hv (by omega)⟩
      dsimp only
      rw [hz]; rfl
  | 3, hi, u, s, hI => by
    obtain ⟨h1, h2⟩ := tAI1_r u.1 u.2 3 1 hi (by kernel_rfl) (by omega) s
    have e : gtA 3 u s = (takeF 100 s).map fun x => ((u.1, u.2.set 1 x.1), x.2) := rfl
    rw [e]
    cases ht : takeF 100 s with
    | none => exact ⟨fun x hx => (by cases hx), fun _ => h2 ht⟩
    | some x =>
      refine ⟨fun y hy => ?_, fun h => by cases h⟩
      cases hy
      refine ⟨?_, h1 x ht⟩
      obtain ⟨a0, a1, b0, b1, v, rfl, hv⟩ := hI
      obtain ⟨z, hz⟩ := takeF_I2 (.inl rfl) ht
      refine ⟨a0, a1, b0, z, v, ?_, fun h => hv (by omega)⟩
      dsimp only
      rw [hz]; rfl
  | 4, hi, u, s, hI => by
    obtain ⟨a0, a1, b0, b1, v, rfl, hv⟩ := hI
    obtain rfl := hv (by omega)
    obtain ⟨h1, h2⟩ := tAN_r a0 a1 b0 b1 s
    have e : gtA 4 (rA0 a0 a1, rA1 b0 b1 (.fsl true 0 [] (some 0))) s = (tL 112 s).map fun x => ((rA0 a0 a1, rA1 b0 b1 (listV x.1)), x.2) := by
      show Option.map _ ((tL 112 s).map _) = _
      cases tL 112 s <;> rfl
    rw [e]
    cases ht : tL 112 s with
    | none => exact ⟨fun x hx => (by cases hx), fun _ => h2 ht⟩
    | some x => exact ⟨fun y hy => (by cases hy; exact ⟨⟨_, _, _, _, _, rfl, fun h => absurd h (by omega)⟩, h1 x ht⟩), fun h => by cases h⟩
  | n + 5, hi, u, s, _ => absurd hi (by omega)
theorem takesA_ok (u : List AVal × List AVal) (hI : ivA 0 u) (s : ByteArray) (x : (List AVal × List AVal) × ByteArray) (hb : seqG gtA 5 0 u s = some x) :
    FOk Try.prog 60 [.ptr 0 1 0 0, .slc false 1 1 0 5 none] [.rows true 1 [[.str s]], .rows false 1 flAt, .rows true 2 [u.1], .rows true 3 [u.2]] (.tuple []) [.rows true 1 [[.str x.2]], .rows false 1 flAt, .rows true 2 [x.1.1], .rows true 3 [x.1.2]] := by
  have r := (takes_run (c := loopNo Try.f60 0) 5 (fun i => rgtA (i : Nat)) (fun (u : List AVal × List AVal) s => hptA u.1 u.2 s) gtA ivA 0 (fun u s _ => TripN.wp (tAX_wp u.1 u.2 5 s ⟨by kernel_rfl, rfl, rfl, rfl⟩)) tA_round 5 0 (by omega) u s hI).1 x hb
  exact (evalF_ok followed Try.func60 (by kernel_rfl) (show evalF Try.prog Try.f60 [.ptr 0 1 0 0, .slc false 1 1 0 5 none] [.rows true 1 [[.str s]], .rows false 1 flAt, .rows true 2 [u.1], .rows true 3 [u.2]] [Dec.compact (keepM 117 [0, 15, 16, 17]) [0, 1, 2, 3], Dec.loop (.exit 0) (rgtA 5) (hptA x.1.1 x.1.2 x.2)] = .ok (FRes.mk (.tuple []) (hptA x.1.1 x.1.2 x.2) [(owed Try.prog 4).loop (loopNo Try.f60 0) (rgtA 0) (hptA u.1 u.2 s) (.exit 0) (rgtA 5) (hptA x.1.1 x.1.2 x.2)]) by kernel_rfl) (allP_of ⟨r.trip, trivial⟩)).move [0, 1, 2, 3] (by kernel_rfl) (by kernel_rfl) (by kernel_rfl)
theorem takesA_no (u : List AVal × List AVal) (hI : ivA 0 u) (s : ByteArray) (hb : seqG gtA 5 0 u s = none) :
    FOk Try.prog 60 [.ptr 0 1 0 0, .slc false 1 1 0 5 none] [.rows true 1 [[.str s]], .rows false 1 flAt, .rows true 2 [u.1], .rows true 3 [u.2]] (.pan 117) [.dead, .dead, .dead, .dead] := by
  obtain ⟨rg', σ', r⟩ := (takes_run (c := loopNo Try.f60 0) 5 (fun i => rgtA (i : Nat)) (fun (u : List AVal × List AVal) s => hptA u.1 u.2 s) gtA ivA 0 (fun u s _ => TripN.wp (tAX_wp u.1 u.2 5 s ⟨by kernel_rfl, rfl, rfl, rfl⟩)) tA_round 5 0 (by omega) u s hI).2 hb
  exact (evalF_ok followed Try.func60 (by kernel_rfl) (show evalF Try.prog Try.f60 [.ptr 0 1 0 0, .slc false 1 1 0 5 none] [.rows true 1 [[.str s]], .rows false 1 flAt, .rows true 2 [u.1], .rows true 3 [u.2]] [Dec.compact (keepM 117 [0, 15, 16, 17]) [0, 1, 2, 3], Dec.loop (.pan 117) rg' σ'] = .ok (FRes.mk (.pan 117) σ' [(owed Try.prog 4).loop (loopNo Try.f60 0) (rgtA 0) (hptA u.1 u.2 s) (.pan 117) rg' σ']) by kernel_rfl) (allP_of ⟨r.trip, trivial⟩)).pan

end Go.L12
end

section
set_option linter.unusedVariables false
set_option maxRecDepth 100000
namespace Go.L12
open Go Go.Abs Go.Proofs

theorem rFA_1 (u0 u1 v0 v1 : List AVal) (m s s2 : ByteArray) (b : Bool)
    (h1 : FOk Try.prog 58 [AVal.bool (ByteArray.toList s2 == ByteArray.toList (ByteArray.mk #[]))] [] (AVal.tuple []) [])
    (h2 : FOk Try.prog 60 [AVal.ptr 0 1 0 0, AVal.slc false 1 1 0 5 none] [AObj.rows true 1 [[AVal.str (ByteArray.extract s (Int.toNat (↑(ByteArray.size m) : Int)) (Int.toNat (↑(ByteArray.size s) : Int)))]], AObj.rows false 1 (flA 2 3), AObj.rows true 2 [u0], AObj.rows true 3 [u1]] (AVal.tuple []) [AObj.rows true 1 [[AVal.str s2]], AObj.rows false 1 (flA 2 3), AObj.rows true 2 [v0], AObj.rows true 3 [v1]])
    (h3 : decide (0 ≤ (↑(ByteArray.size m) : Int) ∧ (↑(ByteArray.size m) : Int) ≤ (↑(ByteArray.size s) : Int) ∧ (↑(ByteArray.size s) : Int) ≤ (↑(ByteArray.size s) : Int)) = true)
    (h4 : FOk Try.prog 58 [AVal.bool true] [] (AVal.tuple []) [])
    (h5 : FOk Try.prog 59 [AVal.str s, AVal.str m] [] (AVal.bool true) []) :
    TripN Try.prog 5 (codeTail (codeTail (bodyOf Try.f40))) (mkR 20 [(1, AVal.str m), (2, AVal.slc false 0 1 0 5 none), (3, AVal.ptr 3 1 0 0), (6, AVal.ptr 4 1 0 0)]) ([AObj.rows false 1 (flA 1 2), AObj.rows true 2 [u0], AObj.rows true 3 [u1], AObj.rows true 1 [[AVal.str s]], AObj.rows true 1 [[AVal.int IntKind.i64 0]]]) (AExit.ret) (mkR 20 [(6, AVal.ptr 4 1 0 0)]) ([AObj.rows false 1 (flA 1 2), AObj.rows true 2 [v0], AObj.rows true 3 [v1], AObj.rows true 1 [[AVal.str s2]], AObj.rows true 1 [[AVal.int IntKind.i64 0]]]) :=
  evalT (st := St.mk (mkR 20 [(1, AVal.str m), (2, AVal.slc false 0 1 0 5 none), (3, AVal.ptr 3 1 0 0), (6, AVal.ptr 4 1 0 0)]) ([AObj.rows false 1 (flA 1 2), AObj.rows true 2 [u0], AObj.rows true 3 [u1], AObj.rows true 1 [[AVal.str s]], AObj.rows true 1 [[AVal.int IntKind.i64 0]]]) ([Dec.use [] [AVal.str s, AVal.str m] [] (AVal.bool true) [], Dec.use [] [AVal.bool true] [] (AVal.tuple []) [], Dec.use [3, 0, 1, 2] [AVal.ptr 0 1 0 0, AVal.slc false 1 1 0 5 none] [AObj.rows true 1 [[AVal.str (ByteArray.extract s (Int.toNat (↑(ByteArray.size m) : Int)) (Int.toNat (↑(ByteArray.size s) : Int)))]], AObj.rows false 1 (flA 2 3), AObj.rows true 2 [u0], AObj.rows true 3 [u1]] (AVal.tuple []) [AObj.rows true 1 [[AVal.str s2]], AObj.rows false 1 (flA 2 3), AObj.rows true 2 [v0], AObj.rows true 3 [v1]], Dec.use [] [AVal.bool (ByteArray.toList s2 == ByteArray.toList (ByteArray.mk #[]))] [] (AVal.tuple []) []]) []) (st' := St.mk (mkR 20 [(1, AVal.str m), (2, AVal.slc false 0 1 0 5 none), (3, AVal.ptr 3 1 0 0), (6, AVal.ptr 4 1 0 0), (7, AVal.str s), (8, AVal.str m), (9, AVal.bool true), (10, AVal.tuple []), (11, AVal.str s), (12, AVal.str m), (13, AVal.int IntKind.i64 (↑(ByteArray.size m) : Int)), (14, AVal.str (ByteArray.extract s (Int.toNat (↑(ByteArray.size m) : Int)) (Int.toNat (↑(ByteArray.size s) : Int)))), (15, AVal.slc false 0 1 0 5 none), (16, AVal.tuple []), (17, AVal.str s2), (18, AVal.bool (ByteArray.toList s2 == ByteArray.toList (ByteArray.mk #[]))), (19, AVal.tuple [])]) ([AObj.rows false 1 (flA 1 2), AObj.rows true 2 [v0], AObj.rows true 3 [v1], AObj.rows true 1 [[AVal.str s2]], AObj.rows true 1 [[AVal.int IntKind.i64 0]]]) ([]) (tr 2 ++ ((Owed.use (owed Try.prog 5) 58 [] [AVal.bool (ByteArray.toList s2 == ByteArray.toList (ByteArray.mk #[]))] [AObj.rows false 1 (flA 1 2), AObj.rows true 2 [v0], AObj.rows true 3 [v1], AObj.rows true 1 [[AVal.str s2]], AObj.rows true 1 [[AVal.int IntKind.i64 0]]] [AVal.bool (ByteArray.toList s2 == ByteArray.toList (ByteArray.mk #[]))] [] (AVal.tuple []) []) :: (tr 3 ++ ((Owed.use (owed Try.prog 5) 60 [3, 0, 1, 2] [AVal.ptr 3 1 0 0, AVal.slc false 0 1 0 5 none] [AObj.rows false 1 (flA 1 2), AObj.rows true 2 [u0], AObj.rows true 3 [u1], AObj.rows true 1 [[AVal.str (ByteArray.extract s (Int.toNat (↑(ByteArray.size m) : Int)) (Int.toNat (↑(ByteArray.size s) : Int)))]], AObj.rows true 1 [[AVal.int IntKind.i64 0]]] [AVal.ptr 0 1 0 0, AVal.slc false 1 1 0 5 none] [AObj.rows true 1 [[AVal.str (ByteArray.extract s (Int.toNat (↑(ByteArray.size m) : Int)) (Int.toNat (↑(ByteArray.size s) : Int)))]], AObj.rows false 1 (flA 2 3), AObj.rows true 2 [u0], AObj.rows true 3 [u1]] (AVal.tuple []) [AObj.rows true 1 [[AVal.str s2]], AObj.rows false 1 (flA 2 3), AObj.rows true 2 [v0], AObj.rows true 3 [v1]]) :: (tr 2 ++ ((decide (0 ≤ (↑(ByteArray.size m) : Int) ∧ (↑(ByteArray.size m) : Int) ≤ (↑(ByteArray.size s) : Int) ∧ (↑(ByteArray.size s) : Int) ≤ (↑(ByteArray.size s) : Int)) = true) :: (tr 3 ++ ((Owed.use (owed Try.prog 5) 58 [] [AVal.bool true] [AObj.rows false 1 (flA 1 2), AObj.rows true 2 [u0], AObj.rows true 3 [u1], AObj.rows true 1 [[AVal.str s]], AObj.rows true 1 [[AVal.int IntKind.i64 0]]] [AVal.bool true] [] (AVal.tuple []) []) :: ((Owed.use (owed Try.prog 5) 59 [] [AVal.str s, AVal.str m] [AObj.rows false 1 (flA 1 2), AObj.rows true 2 [u0], AObj.rows true 3 [u1], AObj.rows true 1 [[AVal.str s]], AObj.rows true 1 [[AVal.int IntKind.i64 0]]] [AVal.str s, AVal.str m] [] (AVal.bool true) []) :: (tr 3 ++ []))))))))))) followed (by kernel_rfl) (allP_of (trC 2 ⟨⟨h1, rfl, rfl, rfl⟩, (trC 3 ⟨⟨h2, rfl, rfl, rfl⟩, (trC 2 ⟨h3, (trC 3 ⟨⟨h4, rfl, rfl, rfl⟩, ⟨⟨h5, rfl, rfl, rfl⟩, (trC 3 trivial)⟩⟩)⟩)⟩)⟩)) (keepM 20 [6]) ([0, 1, 2, 3, 4]) (by kernel_rfl) (by kernel_rfl) (by kernel_rfl)

theorem rFeA_1 (u0 u1 v0 v1 : List AVal) (m s s2 : ByteArray) (b : Bool)
    (h1 : FOk Try.prog 58 [AVal.bool (ByteArray.toList s2 == ByteArray.toList (ByteArray.mk #[]))] [] (AVal.pan 117) [])
    (h2 : FOk Try.prog 60 [AVal.ptr 0 1 0 0, AVal.slc false 1 1 0 5 none] [AObj.rows true 1 [[AVal.str (ByteArray.extract s (Int.toNat (↑(ByteArray.size m) : Int)) (Int.toNat (↑(ByteArray.size s) : Int)))]], AObj.rows false 1 (flA 2 3), AObj.rows true 2 [u0], AObj.rows true 3 [u1]] (AVal.tuple []) [AObj.rows true 1 [[AVal.str s2]], AObj.rows false 1 (flA 2 3), AObj.rows true 2 [v0], AObj.rows true 3 [v1]])
    (h3 : decide (0 ≤ (↑(ByteArray.size m) : Int) ∧ (↑(ByteArray.size m) : Int) ≤ (↑(ByteArray.size s) : Int) ∧ (↑(ByteArray.size s) : Int) ≤ (↑(ByteArray.size s) : Int)) = true)
    (h4 : FOk Try.prog 58 [AVal.bool true] [] (AVal.tuple []) [])
    (h5 : FOk Try.prog 59 [AVal.str s, AVal.str m] [] (AVal.bool true) []) :
    TripN Try.prog 5 (codeTail (codeTail (bodyOf Try.f40))) (mkR 20 [(1, AVal.str m), (2, AVal.slc false 0 1 0 5 none), (3, AVal.ptr 3 1 0 0), (6, AVal.ptr 4 1 0 0)]) ([AObj.rows false 1 (flA 1 2), AObj.rows true 2 [u0], AObj.rows true 3 [u1], AObj.rows true 1 [[AVal.str s]], AObj.rows true 1 [[AVal.int IntKind.i64 0]]]) (AExit.pan 117) (mkR 20 [(6, AVal.ptr 4 1 0 0)]) ([AObj.rows false 1 (flA 1 2), AObj.rows true 2 [v0], AObj.rows true 3 [v1], AObj.rows true 1 [[AVal.str s2]], AObj.rows true 1 [[AVal.int IntKind.i64 0]]]) :=
  evalT (st := St.mk (mkR 20 [(1, AVal.str m), (2, AVal.slc false 0 1 0 5 none), (3, AVal.ptr 3 1 0 0), (6, AVal.ptr 4 1 0 0)]) ([AObj.rows false 1 (flA 1 2), AObj.rows true 2 [u0], AObj.rows true 3 [u1], AObj.rows true 1 [[AVal.str s]], AObj.rows true 1 [[AVal.int IntKind.i64 0]]]) ([Dec.use [] [AVal.str s, AVal.str m] [] (AVal.bool true) [], Dec.use [] [AVal.bool true] [] (AVal.tuple []) [], Dec.use [3, 0, 1, 2] [AVal.ptr 0 1 0 0, AVal.slc false 1 1 0 5 none] [AObj.rows true 1 [[AVal.str (ByteArray.extract s (Int.toNat (↑(ByteArray.size m) : Int)) (Int.toNat (↑(ByteArray.size s) : Int)))]], AObj.rows false 1 (flA 2 3), AObj.rows true 2 [u0], AObj.rows true 3 [u1]] (AVal.tuple []) [AObj.rows true 1 [[AVal.str s2]], AObj.rows false 1 (flA 2 3), AObj.rows true 2 [v0], AObj.rows true 3 [v1]], Dec.use [] [AVal.bool (ByteArray.toList s2 == ByteArray.toList (ByteArray.mk #[]))] [] (AVal.pan 117) []]) []) (st' := St.mk (mkR 20 [(1, AVal.str m), (2, AVal.slc false 0 1 0 5 none), (3, AVal.ptr 3 1 0 0), (6, AVal.ptr 4 1 0 0), (7, AVal.str s), (8, AVal.str m), (9, AVal.bool true), (10, AVal.tuple []), (11, AVal.str s), (12, AVal.str m), (13, AVal.int IntKind.i64 (↑(ByteArray.size m) : Int)), (14, AVal.str (ByteArray.extract s (Int.toNat (↑(ByteArray.size m) : Int)) (Int.toNat (↑(ByteArray.size s) : Int)))), (15, AVal.slc false 0 1 0 5 none), (16, AVal.tuple []), (17, AVal.str s2), (18, AVal.bool (ByteArray.toList s2 == ByteArray.toList (ByteArray.mk #[])))]) ([AObj.rows false 1 (flA 1 2), AObj.rows true 2 [v0], AObj.rows true 3 [v1], AObj.rows true 1 [[AVal.str s2]], AObj.rows true 1 [[AVal.int IntKind.i64 0]]]) ([]) ((Owed.use (owed Try.prog 5) 58 [] [AVal.bool (ByteArray.toList s2 == ByteArray.toList (ByteArray.mk #[]))] [AObj.rows false 1 (flA 1 2), AObj.rows true 2 [v0], AObj.rows true 3 [v1], AObj.rows true 1 [[AVal.str s2]], AObj.rows true 1 [[AVal.int IntKind.i64 0]]] [AVal.bool (ByteArray.toList s2 == ByteArray.toList (ByteArray.mk #[]))] [] (AVal.pan 117) []) :: (tr 3 ++ ((Owed.use (owed Try.prog 5) 60 [3, 0, 1, 2] [AVal.ptr 3 1 0 0, AVal.slc false 0 1 0 5 none] [AObj.rows false 1 (flA 1 2), AObj.rows true 2 [u0], AObj.rows true 3 [u1], AObj.rows true 1 [[AVal.str (ByteArray.extract s (Int.toNat (↑(ByteArray.size m) : Int)) (Int.toNat (↑(ByteArray.size s) : Int)))]], AObj.rows true 1 [[AVal.int IntKind.i64 0]]] [AVal.ptr 0 1 0 0, AVal.slc false 1 1 0 5 none] [AObj.rows true 1 [[AVal.str (ByteArray.extract s (Int.toNat (↑(ByteArray.size m) : Int)) (Int.toNat (↑(ByteArray.size s) : Int)))]], AObj.rows false 1 (flA 2 3), AObj.rows true 2 [u0], AObj.rows true 3 [u1]] (AVal.tuple []) [AObj.rows true 1 [[AVal.str s2]], AObj.rows false 1 (flA 2 3), AObj.rows true 2 [v0], AObj.rows true 3 [v1]]) :: (tr 2 ++ ((decide (0 ≤ (↑(ByteArray.size m) : Int) ∧ (↑(ByteArray.size m) : Int) ≤ (↑(ByteArray.size s) : Int) ∧ (↑(ByteArray.size s) : Int) ≤ (↑(ByteArray.size s) : Int)) = true) :: (tr 3 ++ ((Owed.use (owed Try.prog 5) 58 [] [AVal.bool true] [AObj.rows false 1 (flA 1 2), AObj.rows true 2 [u0], AObj.rows true 3 [u1], AObj.rows true 1 [[AVal.str s]], AObj.rows true 1 [[AVal.int IntKind.i64 0]]] [AVal.bool true] [] (AVal.tuple []) []) :: ((Owed.use (owed Try.prog 5) 59 [] [AVal.str s, AVal.str m] [AObj.rows false 1 (flA 1 2), AObj.rows true 2 [u0], AObj.rows true 3 [u1], AObj.rows true 1 [[AVal.str s]], AObj.rows true 1 [[AVal.int IntKind.i64 0]]] [AVal.str s, AVal.str m] [] (AVal.bool true) []) :: (tr 3 ++ [])))))))))) followed (by kernel_rfl) (allP_of ⟨⟨h1, rfl, rfl, rfl⟩, (trC 3 ⟨⟨h2, rfl, rfl, rfl⟩, (trC 2 ⟨h3, (trC 3 ⟨⟨h4, rfl, rfl, rfl⟩, ⟨⟨h5, rfl, rfl, rfl⟩, (trC 3 trivial)⟩⟩)⟩)⟩)⟩) (keepM 20 [6]) ([0, 1, 2, 3, 4]) (by kernel_rfl) (by kernel_rfl) (by kernel_rfl)

theorem rFnA_1 (u0 u1 : List AVal) (m s : ByteArray)
    (h1 : FOk Try.prog 60 [AVal.ptr 0 1 0 0, AVal.slc false 1 1 0 5 none] [AObj.rows true 1 [[AVal.str (ByteArray.extract s (Int.toNat (↑(ByteArray.size m) : Int)) (Int.toNat (↑(ByteArray.size s) : Int)))]], AObj.rows false 1 (flA 2 3), AObj.rows true 2 [u0], AObj.rows true 3 [u1]] (AVal.pan 117) [AObj.dead, AObj.dead, AObj.dead, AObj.dead])
    (h2 : decide (0 ≤ (↑(ByteArray.size m) : Int) ∧ (↑(ByteArray.size m) : Int) ≤ (↑(ByteArray.size s) : Int) ∧ (↑(ByteArray.size s) : Int) ≤ (↑(ByteArray.size s) : Int)) = true)
    (h3 : FOk Try.prog 58 [AVal.bool true] [] (AVal.tuple []) [])
    (h4 : FOk Try.prog 59 [AVal.str s, AVal.str m] [] (AVal.bool true) []) :
    TripN Try.prog 5 (codeTail (codeTail (bodyOf Try.f40))) (mkR 20 [(1, AVal.str m), (2, AVal.slc false 0 1 0 5 none), (3, AVal.ptr 3 1 0 0), (6, AVal.ptr 4 1 0 0)]) ([AObj.rows false 1 (flA 1 2), AObj.rows true 2 [u0], AObj.rows true 3 [u1], AObj.rows true 1 [[AVal.str s]], AObj.rows true 1 [[AVal.int IntKind.i64 0]]]) (AExit.pan 117) (mkR 20 [(6, AVal.ptr 4 1 0 0)]) ([AObj.dead, AObj.dead, AObj.dead, AObj.dead, AObj.rows true 1 [[AVal.int IntKind.i64 0]]]) :=
  evalT (st := St.mk (mkR 20 [(1, AVal.str m), (2, AVal.slc false 0 1 0 5 none), (3, AVal.ptr 3 1 0 0), (6, AVal.ptr 4 1 0 0)]) ([AObj.rows false 1 (flA 1 2), AObj.rows true 2 [u0], AObj.rows true 3 [u1], AObj.rows true 1 [[AVal.str s]], AObj.rows true 1 [[AVal.int IntKind.i64 0]]]) ([Dec.use [] [AVal.str s, AVal.str m] [] (AVal.bool true) [], Dec.use [] [AVal.bool true] [] (AVal.tuple []) [], Dec.use [3, 0, 1, 2] [AVal.ptr 0 1 0 0, AVal.slc false 1 1 0 5 none] [AObj.rows true 1 [[AVal.str (ByteArray.extract s (Int.toNat (↑(ByteArray.size m) : Int)) (Int.toNat (↑(ByteArray.size s) : Int)))]], AObj.rows false 1 (flA 2 3), AObj.rows true 2 [u0], AObj.rows true 3 [u1]] (AVal.pan 117) [AObj.dead, AObj.dead, AObj.dead, AObj.dead]]) []) (st' := St.mk (mkR 20 [(1, AVal.str m), (2, AVal.slc false 0 1 0 5 none), (3, AVal.ptr 3 1 0 0), (6, AVal.ptr 4 1 0 0), (7, AVal.str s), (8, AVal.str m), (9, AVal.bool true), (10, AVal.tuple []), (11, AVal.str s), (12, AVal.str m), (13, AVal.int IntKind.i64 (↑(ByteArray.size m) : Int)), (14, AVal.str (ByteArray.extract s (Int.toNat (↑(ByteArray.size m) : Int)) (Int.toNat (↑(ByteArray.size s) : Int)))), (15, AVal.slc false 0 1 0 5 none)]) ([AObj.dead, AObj.dead, AObj.dead, AObj.dead, AObj.rows true 1 [[AVal.int IntKind.i64 0]]]) ([]) ((Owed.use (owed Try.prog 5) 60 [3, 0, 1, 2] [AVal.ptr 3 1 0 0, AVal.slc false 0 1 0 5 none] [AObj.rows false 1 (flA 1 2), AObj.rows true 2 [u0], AObj.rows true 3 [u1], AObj.rows true 1 [[AVal.str (ByteArray.extract s (Int.toNat (↑(ByteArray.size m) : Int)) (Int.toNat (↑(ByteArray.size s) : Int)))]], AObj.rows true 1 [[AVal.int IntKind.i64 0]]] [AVal.ptr 0 1 0 0, AVal.slc false 1 1 0 5 none] [AObj.rows true 1 [[AVal.str (ByteArray.extract s (Int.toNat (↑(ByteArray.size m) : Int)) (Int.toNat (↑(ByteArray.size s) : Int)))]], AObj.rows false 1 (flA 2 3), AObj.rows true 2 [u0], AObj.rows true 3 [u1]] (AVal.pan 117) [AObj.dead, AObj.dead, AObj.dead, AObj.dead]) :: (tr 2 ++ ((decide (0 ≤ (↑(ByteArray.size m) : Int) ∧ (↑(ByteArray.size m) : Int) ≤ (↑(ByteArray.size s) : Int) ∧ (↑(ByteArray.size s) : Int) ≤ (↑(ByteArray.size s) : Int)) = true) :: (tr 3 ++ ((Owed.use (owed Try.prog 5) 58 [] [AVal.bool true] [AObj.rows false 1 (flA 1 2), AObj.rows true 2 [u0], AObj.rows true 3 [u1], AObj.rows true 1 [[AVal.str s]], AObj.rows true 1 [[AVal.int IntKind.i64 0]]] [AVal.bool true] [] (AVal.tuple []) []) :: ((Owed.use (owed Try.prog 5) 59 [] [AVal.str s, AVal.str m] [AObj.rows false 1 (flA 1 2), AObj.rows true 2 [u0], AObj.rows true 3 [u1], AObj.rows true 1 [[AVal.str s]], AObj.rows true 1 [[AVal.int IntKind.i64 0]]] [AVal.str s, AVal.str m] [] (AVal.bool true) []) :: (tr 3 ++ [])))))))) followed (by kernel_rfl) (allP_of ⟨⟨h1, rfl, rfl, rfl⟩, (trC 2 ⟨h2, (trC 3 ⟨⟨h3, rfl, rfl, rfl⟩, ⟨⟨h4, rfl, rfl, rfl⟩, (trC 3 trivial)⟩⟩)⟩)⟩) (keepM 20 [6]) ([0, 1, 2, 3, 4]) (by kernel_rfl) (by kernel_rfl) (by kernel_rfl)

theorem rFpA_1 (u0 u1 : List AVal) (m s : ByteArray)
    (h1 : FOk Try.prog 58 [AVal.bool false] [] (AVal.pan 117) [])
    (h2 : FOk Try.prog 59 [AVal.str s, AVal.str m] [] (AVal.bool false) []) :
    TripN Try.prog 5 (codeTail (codeTail (bodyOf Try.f40))) (mkR 20 [(1, AVal.str m), (2, AVal.slc false 0 1 0 5 none), (3, AVal.ptr 3 1 0 0), (6, AVal.ptr 4 1 0 0)]) ([AObj.rows false 1 (flA 1 2), AObj.rows true 2 [u0], AObj.rows true 3 [u1], AObj.rows true 1 [[AVal.str s]], AObj.rows true 1 [[AVal.int IntKind.i64 0]]]) (AExit.pan 117) (mkR 20 [(6, AVal.ptr 4 1 0 0)]) ([AObj.rows false 1 (flA 1 2), AObj.rows true 2 [u0], AObj.rows true 3 [u1], AObj.rows true 1 [[AVal.str s]], AObj.rows true 1 [[AVal.int IntKind.i64 0]]]) :=
  evalT (st := St.mk (mkR 20 [(1, AVal.str m), (2, AVal.slc false 0 1 0 5 none), (3, AVal.ptr 3 1 0 0), (6, AVal.ptr 4 1 0 0)]) ([AObj.rows false 1 (flA 1 2), AObj.rows true 2 [u0], AObj.rows true 3 [u1], AObj.rows true 1 [[AVal.str s]], AObj.rows true 1 [[AVal.int IntKind.i64 0]]]) ([Dec.use [] [AVal.str s, AVal.str m] [] (AVal.bool false) [], Dec.use [] [AVal.bool false] [] (AVal.pan 117) []]) []) (st' := St.mk (mkR 20 [(1, AVal.str m), (2, AVal.slc false 0 1 0 5 none), (3, AVal.ptr 3 1 0 0), (6, AVal.ptr 4 1 0 0), (7, AVal.str s), (8, AVal.str m), (9, AVal.bool false)]) ([AObj.rows false 1 (flA 1 2), AObj.rows true 2 [u0], AObj.rows true 3 [u1], AObj.rows true 1 [[AVal.str s]], AObj.rows true 1 [[AVal.int IntKind.i64 0]]]) ([]) ((Owed.use (owed Try.prog 5) 58 [] [AVal.bool false] [AObj.rows false 1 (flA 1 2), AObj.rows true 2 [u0], AObj.rows true 3 [u1], AObj.rows true 1 [[AVal.str s]], AObj.rows true 1 [[AVal.int IntKind.i64 0]]] [AVal.bool false] [] (AVal.pan 117) []) :: ((Owed.use (owed Try.prog 5) 59 [] [AVal.str s, AVal.str m] [AObj.rows false 1 (flA 1 2), AObj.rows true 2 [u0], AObj.rows true 3 [u1], AObj.rows true 1 [[AVal.str s]], AObj.rows true 1 [[AVal.int IntKind.i64 0]]] [AVal.str s, AVal.str m] [] (AVal.bool false) []) :: (tr 3 ++ [])))) followed (by kernel_rfl) (allP_of ⟨⟨h1, rfl, rfl, rfl⟩, ⟨⟨h2, rfl, rfl, rfl⟩, (trC 3 trivial)⟩⟩) (keepM 20 [6]) ([0, 1, 2, 3, 4]) (by kernel_rfl) (by kernel_rfl) (by kernel_rfl)

theorem bFA_1 (v0 v1 : List AVal) (s2 : ByteArray) :
    TripN Try.prog 5 (codeTail (bodyOf Try.f57)) (catchRegs 16 4 140 7 AVal.nili) ([AObj.rows false 1 (flA 1 2), AObj.rows true 2 [v0], AObj.rows true 3 [v1], AObj.rows true 1 [[AVal.str s2]], AObj.rows true 1 [[AVal.int IntKind.i64 0]]]) (AExit.normal) (mkR 16 []) ([AObj.rows false 1 (flA 1 2), AObj.rows true 2 [v0], AObj.rows true 3 [v1], AObj.rows true 1 [[AVal.str s2]], AObj.rows true 1 [[AVal.int IntKind.i64 0]]]) :=
  evalT (st := St.mk (catchRegs 16 4 140 7 AVal.nili) ([AObj.rows false 1 (flA 1 2), AObj.rows true 2 [v0], AObj.rows true 3 [v1], AObj.rows true 1 [[AVal.str s2]], AObj.rows true 1 [[AVal.int IntKind.i64 0]]]) ([Dec.br true]) []) (st' := St.mk (mkR 16 [(0, AVal.ptr 4 1 0 0), (1, AVal.int IntKind.i64 140), (2, AVal.tuple []), (3, AVal.tuple []), (4, AVal.nili), (5, AVal.tuple []), (6, AVal.tuple []), (7, AVal.nili), (8, AVal.tuple []), (9, AVal.tt true), (10, AVal.tuple []), (11, AVal.tuple []), (12, AVal.tuple []), (13, AVal.tuple []), (14, AVal.tuple []), (15, AVal.tuple [])]) ([AObj.rows false 1 (flA 1 2), AObj.rows true 2 [v0], AObj.rows true 3 [v1], AObj.rows true 1 [[AVal.str s2]], AObj.rows true 1 [[AVal.int IntKind.i64 0]]]) ([]) (tr 1 ++ [])) followed (by kernel_rfl) (allP_of (trC 1 trivial)) (keepM 16 []) ([0, 1, 2, 3, 4]) (by kernel_rfl) (by kernel_rfl) (by kernel_rfl)

theorem bFnA_1 (x : Nat) :
    TripN Try.prog 5 (codeTail (bodyOf Try.f57)) (catchRegs 16 4 140 7 (AVal.iface 117 (AVal.agg []))) ([AObj.dead, AObj.dead, AObj.dead, AObj.dead, AObj.rows true 1 [[AVal.int IntKind.i64 0]]]) (AExit.normal) (mkR 16 []) ([AObj.dead, AObj.dead, AObj.dead, AObj.dead, AObj.rows true 1 [[AVal.int IntKind.i64 140]]]) :=
  evalT (st := St.mk (catchRegs 16 4 140 7 (AVal.iface 117 (AVal.agg []))) ([AObj.dead, AObj.dead, AObj.dead, AObj.dead, AObj.rows true 1 [[AVal.int IntKind.i64 0]]]) ([Dec.br false]) []) (st' := St.mk (mkR 16 [(0, AVal.ptr 4 1 0 0), (1, AVal.int IntKind.i64 140), (2, AVal.tuple []), (3, AVal.tuple []), (4, AVal.tuple []), (5, AVal.ptr 5 0 0 0), (6, AVal.tuple []), (7, AVal.iface 117 (AVal.agg [])), (8, AVal.tuple []), (9, AVal.tt false), (10, AVal.tuple [AVal.agg [], AVal.tt true]), (11, AVal.tt true), (12, AVal.agg []), (13, AVal.ptr 4 1 0 0), (14, AVal.int IntKind.i64 140), (15, AVal.ptr 4 1 0 0)]) ([AObj.dead, AObj.dead, AObj.dead, AObj.dead, AObj.rows true 1 [[AVal.int IntKind.i64 140]], AObj.rows true 0 [[]]]) ([]) (tr 4 ++ ((false = false) :: []))) followed (by kernel_rfl) (allP_of (trC 4 ⟨rfl, trivial⟩)) (keepM 16 []) ([0, 1, 2, 3, 4]) (by kernel_rfl) (by kernel_rfl) (by kernel_rfl)

theorem hFA_1 (u0 u1 : List AVal) (s m : ByteArray) :
    TripN Try.prog 3 (codeHd (bodyOf Try.f40)) ([AVal.str s, AVal.str m, AVal.slc false 0 1 0 5 none] ++ List.replicate (20 - 3) aundef) ([AObj.rows false 1 (flA 1 2), AObj.rows true 2 [u0], AObj.rows true 3 [u1]]) (AExit.normal) (mkR 20 [(1, AVal.str m), (2, AVal.slc false 0 1 0 5 none), (3, AVal.ptr 3 1 0 0), (6, AVal.ptr 4 1 0 0)]) ([AObj.rows false 1 (flA 1 2), AObj.rows true 2 [u0], AObj.rows true 3 [u1], AObj.rows true 1 [[AVal.str s]], AObj.rows true 1 [[AVal.int IntKind.i64 0]]]) :=
  evalT (st := St.mk ([AVal.str s, AVal.str m, AVal.slc false 0 1 0 5 none] ++ List.replicate (20 - 3) aundef) ([AObj.rows false 1 (flA 1 2), AObj.rows true 2 [u0], AObj.rows true 3 [u1]]) ([]) []) (st' := St.mk (mkR 20 [(0, AVal.str s), (1, AVal.str m), (2, AVal.slc false 0 1 0 5 none), (3, AVal.ptr 3 1 0 0), (4, AVal.tuple []), (5, AVal.tuple []), (6, AVal.ptr 4 1 0 0), (7, AVal.tuple []), (8, AVal.tuple []), (9, AVal.tuple []), (10, AVal.tuple []), (11, AVal.tuple []), (12, AVal.tuple []), (13, AVal.tuple []), (14, AVal.tuple []), (15, AVal.tuple []), (16, AVal.tuple []), (17, AVal.tuple []), (18, AVal.tuple []), (19, AVal.tuple [])]) ([AObj.rows false 1 (flA 1 2), AObj.rows true 2 [u0], AObj.rows true 3 [u1], AObj.rows true 1 [[AVal.str s]], AObj.rows true 1 [[AVal.int IntKind.i64 0]]]) ([]) []) followed (by kernel_rfl) (allP_of trivial) (keepM 20 [1, 2, 3, 6]) ([0, 1, 2, 3, 4]) (by kernel_rfl) (by kernel_rfl) (by kernel_rfl)

end Go.L12
end

section
set_option linter.unusedVariables false
set_option maxRecDepth 100000
namespace Go.L12.D
open Go Go.Abs Go.Proofs Go.L12
variable [DS]

theorem rFA_1 (u0 u1 v0 v1 : List AVal) (m s s2 : ByteArray) (b : Bool)
    (h1 : FOk Try.prog 58 [AVal.bool (ByteArray.toList s2 == ByteArray.toList (ByteArray.mk #[]))] [] (AVal.tuple []) [])
    (h2 : FOk Try.prog 60 [AVal.ptr 0 1 0 0, AVal.slc false 1 1 0 5 none] [AObj.rows true 1 [[AVal.str (ByteArray.extract s (Int.toNat (↑(ByteArray.size m) : Int)) (Int.toNat (↑(ByteArray.size s) : Int)))]], AObj.rows false 1 (flA 2 3), AObj.rows true 2 [u0], AObj.rows true 3 [u1]] (AVal.tuple []) [AObj.rows true 1 [[AVal.str s2]], AObj.rows false 1 (flA 2 3), AObj.rows true 2 [v0], AObj.rows true 3 [v1]])
    (h3 : decide (0 ≤ (↑(ByteArray.size m) : Int) ∧ (↑(ByteArray.size m) : Int) ≤ (↑(ByteArray.size s) : Int) ∧ (↑(ByteArray.size s) : Int) ≤ (↑(ByteArray.size s) : Int)) = true)
    (h4 : FOk Try.prog 58 [AVal.bool true] [] (AVal.tuple []) [])
    (h5 : FOk Try.prog 59 [AVal.str s, AVal.str m] [] (AVal.bool true) []) :
    TripN Try.prog 5 (codeTail (codeTail (bodyOf Try.f40))) (mkR 20 [(1, AVal.str m), (2, AVal.slc false 0 1 0 5 none), (3, AVal.ptr 3 1 0 0), (6, AVal.ptr 4 1 0 0)]) ([AObj.rows false 1 (flA 1 2), AObj.rows true 2 [u0], AObj.rows true 3 [u1], AObj.rows true 1 [[AVal.str s]], AObj.rows true 1 [[AVal.int IntKind.i64 0]]]) (AExit.ret) (mkR 20 [(6, AVal.ptr 4 1 0 0)]) ([AObj.rows false 1 (flA 1 2), AObj.rows true 2 [v0], AObj.rows true 3 [v1], AObj.rows true 1 [[AVal.str s2]], AObj.rows true 1 [[AVal.int IntKind.i64 0]]]) :=
  evalT (st := St.mk (mkR 20 [(1, AVal.str m), (2, AVal.slc false 0 1 0 5 none), (3, AVal.ptr 3 1 0 0), (6, AVal.ptr 4 1 0 0)]) ([AObj.rows false 1 (flA 1 2), AObj.rows true 2 [u0], AObj.rows true 3 [u1], AObj.rows true 1 [[AVal.str s]], AObj.rows true 1 [[AVal.int IntKind.i64 0]]]) ([Dec.use [] [AVal.str s, AVal.str m] [] (AVal.bool true) [], Dec.use [] [AVal.bool true] [] (AVal.tuple []) [], Dec.use [3, 0, 1, 2] [AVal.ptr 0 1 0 0, AVal.slc false 1 1 0 5 none] [AObj.rows true 1 [[AVal.str (ByteArray.extract s (Int.toNat (↑(ByteArray.size m) : Int)) (Int.toNat (↑(ByteArray.size s) : Int)))]], AObj.rows false 1 (flA 2 3), AObj.rows true 2 [u0], AObj.rows true 3 [u1]] (AVal.tuple []) [AObj.rows true 1 [[AVal.str s2]], AObj.rows false 1 (flA 2 3), AObj.rows true 2 [v0], AObj.rows true 3 [v1]], Dec.use [] [AVal.bool (ByteArray.toList s2 == ByteArray.toList (ByteArray.mk #[]))] [] (AVal.tuple []) []]) []) (st' := St.mk (mkR 20 [(1, AVal.str m), (2, AVal.slc false 0 1 0 5 none), (3, AVal.ptr 3 1 0 0), (6, AVal.ptr 4 1 0 0), (7, AVal.str s), (8, AVal.str m), (9, AVal.bool true), (10, AVal.tuple []), (11, AVal.str s), (12, AVal.str m), (13, AVal.int IntKind.i64 (↑(ByteArray.size m) : Int)), (14, AVal.str (ByteArray.extract s (Int.toNat (↑(ByteArray.size m) : Int)) (Int.toNat (↑(ByteArray.size s) : Int)))), (15, AVal.slc false 0 1 0 5 none), (16, AVal.tuple []), (17, AVal.str s2), (18, AVal.bool (ByteArray.toList s2 == ByteArray.toList (ByteArray.mk #[]))), (19, AVal.tuple [])]) ([AObj.rows false 1 (flA 1 2), AObj.rows true 2 [v0], AObj.rows true 3 [v1], AObj.rows true 1 [[AVal.str s2]], AObj.rows true 1 [[AVal.int IntKind.i64 0]]]) ([]) (tr 2 ++ ((Owed.use (owed Try.prog 5) 58 [] [AVal.bool (ByteArray.toList s2 == ByteArray.toList (ByteArray.mk #[]))] [AObj.rows false 1 (flA 1 2), AObj.rows true 2 [v0], AObj.rows true 3 [v1], AObj.rows true 1 [[AVal.str s2]], AObj.rows true 1 [[AVal.int IntKind.i64 0]]] [AVal.bool (ByteArray.toList s2 == ByteArray.toList (ByteArray.mk #[]))] [] (AVal.tuple []) []) :: (tr 3 ++ ((Owed.use (owed Try.prog 5) 60 [3, 0, 1, 2] [AVal.ptr 3 1 0 0, AVal.slc false 0 1 0 5 none] [AObj.rows false 1 (flA 1 2), AObj.rows true 2 [u0], AObj.rows true 3 [u1], AObj.rows true 1 [[AVal.str (ByteArray.extract s (Int.toNat (↑(ByteArray.size m) : Int)) (Int.toNat (↑(ByteArray.size s) : Int)))]], AObj.rows true 1 [[AVal.int IntKind.i64 0]]] [AVal.ptr 0 1 0 0, AVal.slc false 1 1 0 5 none] [AObj.rows true 1 [[AVal.str (ByteArray.extract s (Int.toNat (↑(ByteArray.size m) : Int)) (Int.toNat (↑(ByteArray.size s) : Int)))]], AObj.rows false 1 (flA 2 3), AObj.rows true 2 [u0], AObj.rows true 3 [u1]] (AVal.tuple []) [AObj.rows true 1 [[AVal.str s2]], AObj.rows false 1 (flA 2 3), AObj.rows true 2 [v0], AObj.rows true 3 [v1]]) :: (tr 2 ++ ((decide (0 ≤ (↑(ByteArray.size m) : Int) ∧ (↑(ByteArray.size m) : Int) ≤ (↑(ByteArray.size s) : Int) ∧ (↑(ByteArray.size s) : Int) ≤ (↑(ByteArray.size s) : Int)) = true) :: (tr 3 ++ ((Owed.use (owed Try.prog 5) 58 [] [AVal.bool true] [AObj.rows false 1 (flA 1 2), AObj.rows true 2 [u0], AObj.rows true 3 [u1], AObj.rows true 1 [[AVal.str s]], AObj.rows true 1 [[AVal.int IntKind.i64 0]]] [AVal.bool true] [] (AVal.tuple []) []) :: ((Owed.use (owed Try.prog 5) 59 [] [AVal.str s, AVal.str m] [AObj.rows false 1 (flA 1 2), AObj.rows true 2 [u0], AObj.rows true 3 [u1], AObj.rows true 1 [[AVal.str s]], AObj.rows true 1 [[AVal.int IntKind.i64 0]]] [AVal.str s, AVal.str m] [] (AVal.bool true) []) :: (tr 3 ++ []))))))))))) followed (by kernel_rfl) (allP_of (trC 2 ⟨⟨h1, rfl, rfl, rfl⟩, (trC 3 ⟨⟨h2, rfl, rfl, rfl⟩, (trC 2 ⟨h3, (trC 3 ⟨⟨h4, rfl, rfl, rfl⟩, ⟨⟨h5, rfl, rfl, rfl⟩, (trC 3 trivial)⟩⟩)⟩)⟩)⟩)) (keepM 20 [6]) ([0, 1, 2, 3, 4]) (by kernel_rfl) (by kernel_rfl) (by kernel_rfl)

theorem rFeA_1 (u0 u1 v0 v1 : List AVal) (m s s2 : ByteArray) (b : Bool)
    (h1 : FOk Try.prog 58 [AVal.bool (ByteArray.toList s2 == ByteArray.toList (ByteArray.mk #[]))] [] (AVal.pan 117) [])
    (h2 : FOk Try.prog 60 [AVal.ptr 0 1 0 0, AVal.slc false 1 1 0 5 none] [AObj.rows true 1 [[AVal.str (ByteArray.extract s (Int.toNat (↑(ByteArray.size m) : Int)) (Int.toNat (↑(ByteArray.size s) : Int)))]], AObj.rows false 1 (flA 2 3), AObj.rows true 2 [u0], AObj.rows true 3 [u1]] (AVal.tuple []) [AObj.rows true 1 [[AVal.str s2]], AObj.rows false 1 (flA 2 3), AObj.rows true 2 [v0], AObj.rows true 3 [v1]])
    (h3 : decide (0 ≤ (↑(ByteArray.size m) : Int) ∧ (↑(ByteArray.size m) : Int) ≤ (↑(ByteArray.size s) : Int) ∧ (↑(ByteArray.size s) : Int) ≤ (↑(ByteArray.size s) : Int)) = true)
    (h4 : FOk Try.prog 58 [AVal.bool true] [] (AVal.tuple []) [])
    (h5 : FOk Try.prog 59 [AVal.str s, AVal.str m] [] (AVal.bool true) []) :
    TripN Try.prog 5 (codeTail (codeTail (bodyOf Try.f40))) (mkR 20 [(1, AVal.str m), (2, AVal.slc false 0 1 0 5 none), (3, AVal.ptr 3 1 0 0), (6, AVal.ptr 4 1 0 0)]) ([AObj.rows false 1 (flA 1 2), AObj.rows true 2 [u0], AObj.rows true 3 [u1], AObj.rows true 1 [[AVal.str s]], AObj.rows true 1 [[AVal.int IntKind.i64 0]]]) (AExit.pan 117) (mkR 20 [(6, AVal.ptr 4 1 0 0)]) ([AObj.rows false 1 (flA 1 2), AObj.rows true 2 [v0], AObj.rows true 3 [v1], AObj.rows true 1 [[AVal.str s2]], AObj.rows true 1 [[AVal.int IntKind.i64 0]]]) :=
  evalT (st := St.mk (mkR 20 [(1, AVal.str m), (2, AVal.slc false 0 1 0 5 none), (3, AVal.ptr 3 1 0 0), (6, AVal.ptr 4 1 0 0)]) ([AObj.rows false 1 (flA 1 2), AObj.rows true 2 [u0], AObj.rows true 3 [u1], AObj.rows true 1 [[AVal.str s]], AObj.rows true 1 [[AVal.int IntKind.i64 0]]]) ([Dec.use [] [AVal.str s, AVal.str m] [] (AVal.bool true) [], Dec.use [] [AVal.bool true] [] (AVal.tuple []) [], Dec.use [3, 0, 1, 2] [AVal.ptr 0 1 0 0, AVal.slc false 1 1 0 5 none] [AObj.rows true 1 [[AVal.str (ByteArray.extract s (Int.toNat (↑(ByteArray.size m) : Int)) (Int.toNat (↑(ByteArray.size s) : Int)))]], AObj.rows false 1 (flA 2 3), AObj.rows true 2 [u0], AObj.rows true 3 [u1]] (AVal.tuple []) [AObj.rows true 1 [[AVal.str s2]], AObj.rows false 1 (flA 2 3), AObj.rows true 2 [v0], AObj.rows true 3 [v1]], Dec.use [] [AVal.bool (ByteArray.toList s2 == ByteArray.toList (ByteArray.mk #[]))] [] (AVal.pan 117) []]) []) (st' := St.mk (mkR 20 [(1, AVal.str m), (2, AVal.slc false 0 1 0 5 none), (3, AVal.ptr 3 1 0 0), (6, AVal.ptr 4 1 0 0), (7, AVal.str s), (8, AVal.str m), (9, AVal.bool true), (10, AVal.tuple []), (11, AVal.str s), (12, AVal.str m), (13, AVal.int IntKind.i64 (↑(ByteArray.size m) : Int)), (14, AVal.str (ByteArray.extract s (Int.toNat (↑(ByteArray.size m) : Int)) (Int.toNat (↑(ByteArray.size s) : Int)))), (15, AVal.slc false 0 1 0 5 none), (16, AVal.tuple []), (17, AVal.str s2), (18, AVal.bool (ByteArray.toList s2 == ByteArray.toList (ByteArray.mk #[])))]) ([AObj.rows false 1 (flA 1 2), AObj.rows true 2 [v0], AObj.rows true 3 [v1], AObj.rows true 1 [[AVal.str s2]], AObj.rows true 1 [[AVal.int IntKind.i64 0]]]) ([]) ((Owed.use (owed Try.prog 5) 58 [] [AVal.bool (ByteArray.toList s2 == ByteArray.toList (ByteArray.mk #[]))] [AObj.rows false 1 (flA 1 2), AObj.rows true 2 [v0], AObj.rows true 3 [v1], AObj.rows true 1 [[AVal.str s2]], AObj.rows true 1 [[AVal.int IntKind.i64 0]]] [AVal.bool (ByteArray.toList s2 == ByteArray.toList (ByteArray.mk #[]))] [] (AVal.pan 117) []) :: (tr 3 ++ ((Owed.use (owed Try.prog 5) 60 [3, 0, 1, 2] [AVal.ptr 3 1 0 0, AVal.slc false 0 1 0 5 none] [AObj.rows false 1 (flA 1 2), AObj.rows true 2 [u0], AObj.rows true 3 [u1], AObj.rows true 1 [[AVal.str (ByteArray.extract s (Int.toNat (↑(ByteArray.size m) : Int)) (Int.toNat (↑(ByteArray.size s) : Int)))]], AObj.rows true 1 [[AVal.int IntKind.i64 0]]] [AVal.ptr 0 1 0 0, AVal.slc false 1 1 0 5 none] [AObj.rows true 1 [[AVal.str (ByteArray.extract s (Int.toNat (↑(ByteArray.size m) : Int)) (Int.toNat (↑(ByteArray.size s) : Int)))]], AObj.rows false 1 (flA 2 3), AObj.rows true 2 [u0], AObj.rows true 3 [u1]] (AVal.tuple []) [AObj.rows true 1 [[AVal.str s2]], AObj.rows false 1 (flA 2 3), AObj.rows true 2 [v0], AObj.rows true 3 [v1]]) :: (tr 2 ++ ((decide (0 ≤ (↑(ByteArray.size m) : Int) ∧ (↑(ByteArray.size m) : Int) ≤ (↑(ByteArray.size s) : Int) ∧ (↑(ByteArray.size s) : Int) ≤ (↑(ByteArray.size s) : Int)) = true) :: (tr 3 ++ ((Owed.use (owed Try.prog 5) 58 [] [AVal.bool true] [AObj.rows false 1 (flA 1 2), AObj.rows true 2 [u0], AObj.rows true 3 [u1], AObj.rows true 1 [[AVal.str s]], AObj.rows true 1 [[AVal.int IntKind.i64 0]]] [AVal.bool true] [] (AVal.tuple []) []) :: ((Owed.use (owed Try.prog 5) 59 [] [AVal.str s, AVal.str m] [AObj.rows false 1 (flA 1 2), AObj.rows true 2 [u0], AObj.rows true 3 [u1], AObj.rows true 1 [[AVal.str s]], AObj.rows true 1 [[AVal.int IntKind.i64 0]]] [AVal.str s, AVal.str m] [] (AVal.bool true) []) :: (tr 3 ++ [])))))))))) followed (by kernel_rfl) (allP_of ⟨⟨h1, rfl, rfl, rfl⟩, (trC 3 ⟨⟨h2, rfl, rfl, rfl⟩, (trC 2 ⟨h3, (trC 3 ⟨⟨h4, rfl, rfl, rfl⟩, ⟨⟨h5, rfl, rfl, rfl⟩, (trC 3 trivial)⟩⟩)⟩)⟩)⟩) (keepM 20 [6]) ([0, 1, 2, 3, 4]) (by kernel_rfl) (by kernel_rfl) (by kernel_rfl)

theorem rFnA_1 (u0 u1 : List AVal) (m s : ByteArray)
    (h1 : FOk Try.prog 60 [AVal.ptr 0 1 0 0, AVal.slc false 1 1 0 5 none] [AObj.rows true 1 [[AVal.str (ByteArray.extract s (Int.toNat (↑(ByteArray.size m) : Int)) (Int.toNat (↑(ByteArray.size s) : Int)))]], AObj.rows false 1 (flA 2 3), AObj.rows true 2 [u0], AObj.rows true 3 [u1]] (AVal.pan 117) [AObj.dead, AObj.dead, AObj.dead, AObj.dead])
    (h2 : decide (0 ≤ (↑(ByteArray.size m) : Int) ∧ (↑(ByteArray.size m) : Int) ≤ (↑(ByteArray.size s) : Int) ∧ (↑(ByteArray.size s) : Int) ≤ (↑(ByteArray.size s) : Int)) = true)
    (h3 : FOk Try.prog 58 [AVal.bool true] [] (AVal.tuple []) [])
    (h4 : FOk Try.prog 59 [AVal.str s, AVal.str m] [] (AVal.bool true) []) :
    TripN Try.prog 5 (codeTail (codeTail (bodyOf Try.f40))) (mkR 20 [(1, AVal.str m), (2, AVal.slc false 0 1 0 5 none), (3, AVal.ptr 3 1 0 0), (6, AVal.ptr 4 1 0 0)]) ([AObj.rows false 1 (flA 1 2), AObj.rows true 2 [u0], AObj.rows true 3 [u1], AObj.rows true 1 [[AVal.str s]], AObj.rows true 1 [[AVal.int IntKind.i64 0]]]) (AExit.pan 117) (mkR 20 [(6, AVal.ptr 4 1 0 0)]) ([AObj.dead, AObj.dead, AObj.dead, AObj.dead, AObj.rows true 1 [[AVal.int IntKind.i64 0]]]) :=
  evalT (st := St.mk (mkR 20 [(1, AVal.str m), (2, AVal.slc false 0 1 0 5 none), (3, AVal.ptr 3 1 0 0), (6, AVal.ptr 4 1 0 0)]) ([AObj.rows false 1 (flA 1 2), AObj.rows true 2 [u0], AObj.rows true 3 [u1], AObj.rows true 1 [[AVal.str s]], AObj.rows true 1 [[AVal.int IntKind.i64 0]]]) ([Dec.use [] [AVal.str s, AVal.str m] [] (AVal.bool true) [], Dec.use [] [AVal.bool true] [] (AVal.tuple []) [], Dec.use [3, 0, 1, 2] [AVal.ptr 0 1 0 0, AVal.slc false 1 1 0 5 none] [AObj.rows true 1 [[AVal.str (ByteArray.extract s (Int.toNat (↑(ByteArray.size m) : Int)) (Int.toNat (↑(ByteArray.size s) : Int)))]], AObj.rows false 1 (flA 2 3), AObj.rows true 2 [u0], AObj.rows true 3 [u1]] (AVal.pan 117) [AObj.dead, AObj.dead, AObj.dead, AObj.dead]]) []) (st' := St.mk (mkR 20 [(1, AVal.str m), (2, AVal.slc false 0 1 0 5 none), (3, AVal.ptr 3 1 0 0), (6, AVal.ptr 4 1 0 0), (7, AVal.str s), (8, AVal.str m), (9, AVal.bool true), (10, AVal.tuple []), (11, AVal.str s), (12, AVal.str m), (13, AVal.int IntKind.i64 (↑(ByteArray.size m) : Int)), (14, AVal.str (ByteArray.extract s (Int.toNat (↑(ByteArray.size m) : Int)) (Int.toNat (↑(ByteArray.size s) : Int)))), (15, AVal.slc false 0 1 0 5 none)]) ([AObj.dead, AObj.dead, AObj.dead, AObj.dead, AObj.rows true 1 [[AVal.int IntKind.i64 0]]]) ([]) ((Owed.use (owed Try.prog 5) 60 [3, 0, 1, 2] [AVal.ptr 3 1 0 0, AVal.slc false 0 1 0 5 none] [AObj.rows false 1 (flA 1 2), AObj.rows true 2 [u0], AObj.rows true 3 [u1], AObj.rows true 1 [[AVal.str (ByteArray.extract s (Int.toNat (↑(ByteArray.size m) : Int)) (Int.toNat (↑(ByteArray.size s) : Int)))]], AObj.rows true 1 [[AVal.int IntKind.i64 0]]] [AVal.ptr 0 1 0 0, AVal.slc false 1 1 0 5 none] [AObj.rows true 1 [[AVal.str (ByteArray.extract s (Int.toNat (↑(ByteArray.size m) : Int)) (Int.toNat (↑(ByteArray.size s) : Int)))]], AObj.rows false 1 (flA 2 3), AObj.rows true 2 [u0], AObj.rows true 3 [u1]] (AVal.pan 117) [AObj.dead, AObj.dead, AObj.dead, AObj.dead]) :: (tr 2 ++ ((decide (0 ≤ (↑(ByteArray.size m) : Int) ∧ (↑(ByteArray.size m) : Int) ≤ (↑(ByteArray.size s) : Int) ∧ (↑(ByteArray.size s) : Int) ≤ (↑(ByteArray.size s) : Int)) = true) :: (tr 3 ++ ((Owed.use (owed Try.prog 5) 58 [] [AVal.bool true] [AObj.rows false 1 (flA 1 2), AObj.rows true 2 [u0], AObj.rows true 3 [u1], AObj.rows true 1 [[AVal.str s]], AObj.rows true 1 [[AVal.int IntKind.i64 0]]] [AVal.bool true] [] (AVal.tuple []) []) :: ((Owed.use (owed Try.prog 5) 59 [] [AVal.str s, AVal.str m] [AObj.rows false 1 (flA 1 2), AObj.rows true 2 [u0], AObj.rows true 3 [u1], AObj.rows true 1 [[AVal.str s]], AObj.rows true 1 [[AVal.int IntKind.i64 0]]] [AVal.str s, AVal.str m] [] (AVal.bool true) []) :: (tr 3 ++ [])))))))) followed (by kernel_rfl) (allP_of ⟨⟨h1, rfl, rfl, rfl⟩, (trC 2 ⟨h2, (trC 3 ⟨⟨h3, rfl, rfl, rfl⟩, ⟨⟨h4, rfl, rfl, rfl⟩, (trC 3 trivial)⟩⟩)⟩)⟩) (keepM 20 [6]) ([0, 1, 2, 3, 4]) (by kernel_rfl) (by kernel_rfl) (by kernel_rfl)

theorem rFpA_1 (u0 u1 : List AVal) (m s : ByteArray)
    (h1 : FOk Try.prog 58 [AVal.bool false] [] (AVal.pan 117) [])
    (h2 : FOk Try.prog 59 [AVal.str s, AVal.str m] [] (AVal.bool false) []) :
    TripN Try.prog 5 (codeTail (codeTail (bodyOf Try.f40))) (mkR 20 [(1, AVal.str m), (2, AVal.slc false 0 1 0 5 none), (3, AVal.ptr 3 1 0 0), (6, AVal.ptr 4 1 0 0)]) ([AObj.rows false 1 (flA 1 2), AObj.rows true 2 [u0], AObj.rows true 3 [u1], AObj.rows true 1 [[AVal.str s]], AObj.rows true 1 [[AVal.int IntKind.i64 0]]]) (AExit.pan 117) (mkR 20 [(6, AVal.ptr 4 1 0 0)]) ([AObj.rows false 1 (flA 1 2), AObj.rows true 2 [u0], AObj.rows true 3 [u1], AObj.rows true 1 [[AVal.str s]], AObj.rows true 1 [[AVal.int IntKind.i64 0]]]) :=
  evalT (st := St.mk (mkR 20 [(1, AVal.str m), (2, AVal.slc false 0 1 0 5 none), (3, AVal.ptr 3 1 0 0), (6, AVal.ptr 4 1 0 0)]) ([AObj.rows false 1 (flA 1 2), AObj.rows true 2 [u0], AObj.rows true 3 [u1], AObj.rows true 1 [[AVal.str s]], AObj.rows true 1 [[AVal.int IntKind.i64 0]]]) ([Dec.use [] [AVal.str s, AVal.str m] [] (AVal.bool false) [], Dec.use [] [AVal.bool false] [] (AVal.pan 117) []]) []) (st' := St.mk (mkR 20 [(1, AVal.str m), (2, AVal.slc false 0 1 0 5 none), (3, AVal.ptr 3 1 0 0), (6, AVal.ptr 4 1 0 0), (7, AVal.str s), (8, AVal.str m), (9, AVal.bool false)]) ([AObj.rows false 1 (flA 1 2), AObj.rows true 2 [u0], AObj.rows true 3 [u1], AObj.rows true 1 [[AVal.str s]], AObj.rows true 1 [[AVal.int IntKind.i64 0]]]) ([]) ((Owed.use (owed Try.prog 5) 58 [] [AVal.bool false] [AObj.rows false 1 (flA 1 2), AObj.rows true 2 [u0], AObj.rows true 3 [u1], AObj.rows true 1 [[AVal.str s]], AObj.rows true 1 [[AVal.int IntKind.i64 0]]] [AVal.bool false] [] (AVal.pan 117) []) :: ((Owed.use (owed Try.prog 5) 59 [] [AVal.str s, AVal.str m] [AObj.rows false 1 (flA 1 2), AObj.rows true 2 [u0], AObj.rows true 3 [u1], AObj.rows true 1 [[AVal.str s]], AObj.rows true 1 [[AVal.int IntKind.i64 0]]] [AVal.str s, AVal.str m] [] (AVal.bool false) []) :: (tr 3 ++ [])))) followed (by kernel_rfl) (allP_of ⟨⟨h1, rfl, rfl, rfl⟩, ⟨⟨h2, rfl, rfl, rfl⟩, (trC 3 trivial)⟩⟩) (keepM 20 [6]) ([0, 1, 2, 3, 4]) (by kernel_rfl) (by kernel_rfl) (by kernel_rfl)

end Go.L12.D
end

section
set_option linter.unusedVariables false
set_option linter.unusedSimpArgs false
set_option maxRecDepth 100000
namespace Go.L12
open Go Go.Abs Go.Proofs

theorem fromA_ok (u0 u1 v0 v1 : List AVal) (s m : ByteArray) (hp : (lB m <+: lB s)) (h : FOk Try.prog 60 [.ptr 0 1 0 0, .slc false 1 1 0 5 none] [.rows true 1 [[.str (s.extract m.size s.size)]], .rows false 1 (flA 2 3), .rows true 2 [u0], .rows true 3 [u1]] (.tuple []) [.rows true 1 [[.str ⟨#[]⟩]], .rows false 1 (flA 2 3), .rows true 2 [v0], .rows true 3 [v1]]) :
    FOk Try.prog 40 [.str s, .str m, .slc false 0 1 0 5 none] [.rows false 1 (flA 1 2), .rows true 2 [u0], .rows true 3 [u1]] (.int .i64 0) [.rows false 1 (flA 1 2), .rows true 2 [v0], .rows true 3 [v1]] :=
  have hl := hp.length_le
  have hl : m.size ≤ s.size := by rw [lB_length, lB_length] at hl; exact hl
  (defer_calls (P := Try.prog) (f := 40) (fn := Try.f40) (c0 := .seq (codeHd (bodyOf Try.f40)) (.seq (.region 1 #[firstOp (codeTail (bodyOf Try.f40))] false) (codeTail (codeTail (bodyOf Try.f40))))) (rest := codeTail (codeTail (bodyOf Try.f40))) (blk := codeTail (bodyOf Try.f57)) (dop := firstOp (codeTail (bodyOf Try.f40))) (rop := firstOp (bodyOf Try.f57)) (gn := Try.f57) (g := 57) (no := 140) (k := 6) (kk := 7) (id := 4) (rid := 1) (rid2 := 0) (ts := #[102, 26]) (tsr := #[]) (xs := [.str s, .str m, .slc false 0 1 0 5 none]) (σ := [.rows false 1 (flA 1 2), .rows true 2 [u0], .rows true 3 [u1]]) (σ1 := [.rows false 1 (flA 1 2), .rows true 2 [u0], .rows true 3 [u1], .rows true 1 [[.str s]], .rows true 1 [[.int .i64 0]]]) (y := ([.int .i64 0], tr 3 ++ []))
    rfl Try.func40 (by kernel_rfl) (by kernel_rfl) (by kernel_rfl) (by kernel_rfl) (by kernel_rfl) Try.func57 (by kernel_rfl) (by kernel_rfl) (by kernel_rfl) (by kernel_rfl) (by kernel_rfl) (by kernel_rfl)
    (Pre.one (hFA_1 u0 u1 s m)) (fun ds => @D.rFA_1 ⟨ds⟩ u0 u1 v0 v1 m s ⟨#[]⟩ true (right_ok _ (by simp)) h (decide_eq_true (by omega)) (right_ok _ rfl) (by have := hasPrefix_ok s m; rw [decide_eq_true hp] at this; exact this)) (by kernel_rfl) (.inl ⟨rfl, rfl⟩) (bFA_1 v0 v1 ⟨#[]⟩) (by kernel_rfl) tr3).move [0, 1, 2] (by kernel_rfl) (by kernel_rfl) (by kernel_rfl)
theorem fromA_more (u0 u1 v0 v1 : List AVal) (s m s2 : ByteArray) (hp : (lB m <+: lB s)) (h2 : s2.size ≠ 0) (h : FOk Try.prog 60 [.ptr 0 1 0 0, .slc false 1 1 0 5 none] [.rows true 1 [[.str (s.extract m.size s.size)]], .rows false 1 (flA 2 3), .rows true 2 [u0], .rows true 3 [u1]] (.tuple []) [.rows true 1 [[.str s2]], .rows false 1 (flA 2 3), .rows true 2 [v0], .rows true 3 [v1]]) :
    FOk Try.prog 40 [.str s, .str m, .slc false 0 1 0 5 none] [.rows false 1 (flA 1 2), .rows true 2 [u0], .rows true 3 [u1]] (.int .i64 140) [.dead, .dead, .dead] :=
  have hl := hp.length_le
  have hl : m.size ≤ s.size := by rw [lB_length, lB_length] at hl; exact hl
  have hne : (s2.toList == (ByteArray.mk #[]).toList) = false := by
    rw [toList_lB, toList_lB, beq_eq_false_iff_ne]
    intro e
    have := lB_inj e
    subst this
    exact h2 rfl
  (defer_calls (P := Try.prog) (f := 40) (fn := Try.f40) (c0 := .seq (codeHd (bodyOf Try.f40)) (.seq (.region 1 #[firstOp (codeTail (bodyOf Try.f40))] false) (codeTail (codeTail (bodyOf Try.f40))))) (rest := codeTail (codeTail (bodyOf Try.f40))) (blk := codeTail (bodyOf Try.f57)) (dop := firstOp (codeTail (bodyOf Try.f40))) (rop := firstOp (bodyOf Try.f57)) (gn := Try.f57) (g := 57) (no := 140) (k := 6) (kk := 7) (id := 4) (rid := 1) (rid2 := 0) (ts := #[102, 26]) (tsr := #[]) (xs := [.str s, .str m, .slc false 0 1 0 5 none]) (σ := [.rows false 1 (flA 1 2), .rows true 2 [u0], .rows true 3 [u1]]) (σ1 := [.rows false 1 (flA 1 2), .rows true 2 [u0], .rows true 3 [u1], .rows true 1 [[.str s]], .rows true 1 [[.int .i64 0]]]) (y := ([.int .i64 140], tr 3 ++ []))
    rfl Try.func40 (by kernel_rfl) (by kernel_rfl) (by kernel_rfl) (by kernel_rfl) (by kernel_rfl) Try.func57 (by kernel_rfl) (by kernel_rfl) (by kernel_rfl) (by kernel_rfl) (by kernel_rfl) (by kernel_rfl)
    (Pre.one (hFA_1 u0 u1 s m)) (fun ds => @TripN.deadH (@dsG ⟨ds⟩) _ _ _ _ _ _ _ _ (@D.rFeA_1 ⟨ds⟩ u0 u1 v0 v1 m s s2 true (right_no _ hne) h (decide_eq_true (by omega)) (right_ok _ rfl) (by have := hasPrefix_ok s m; rw [decide_eq_true hp] at this; exact this)) [true, true, true, true]) (by kernel_rfl) (.inr ⟨117, rfl, rfl⟩) (bFnA_1 0) (by kernel_rfl) tr3).move [0, 1, 2] (by kernel_rfl) (by kernel_rfl) (by kernel_rfl)
theorem fromA_no (u0 u1 : List AVal) (s m : ByteArray) (hp : (lB m <+: lB s)) (h : FOk Try.prog 60 [.ptr 0 1 0 0, .slc false 1 1 0 5 none] [.rows true 1 [[.str (s.extract m.size s.size)]], .rows false 1 (flA 2 3), .rows true 2 [u0], .rows true 3 [u1]] (.pan 117) [.dead, .dead, .dead, .dead]) :
    FOk Try.prog 40 [.str s, .str m, .slc false 0 1 0 5 none] [.rows false 1 (flA 1 2), .rows true 2 [u0], .rows true 3 [u1]] (.int .i64 140) [.dead, .dead, .dead] :=
  have hl := hp.length_le
  have hl : m.size ≤ s.size := by rw [lB_length, lB_length] at hl; exact hl
  (defer_calls (P := Try.prog) (f := 40) (fn := Try.f40) (c0 := .seq (codeHd (bodyOf Try.f40)) (.seq (.region 1 #[firstOp (codeTail (bodyOf Try.f40))] false) (codeTail (codeTail (bodyOf Try.f40))))) (rest := codeTail (codeTail (bodyOf Try.f40))) (blk := codeTail (bodyOf Try.f57)) (dop := firstOp (codeTail (bodyOf Try.f40))) (rop := firstOp (bodyOf Try.f57)) (gn := Try.f57) (g := 57) (no := 140) (k := 6) (kk := 7) (id := 4) (rid := 1) (rid2 := 0) (ts := #[102, 26]) (tsr := #[]) (xs := [.str s, .str m, .slc false 0 1 0 5 none]) (σ := [.rows false 1 (flA 1 2), .rows true 2 [u0], .rows true 3 [u1]]) (σ1 := [.rows false 1 (flA 1 2), .rows true 2 [u0], .rows true 3 [u1], .rows true 1 [[.str s]], .rows true 1 [[.int .i64 0]]]) (y := ([.int .i64 140], tr 3 ++ []))
    rfl Try.func40 (by kernel_rfl) (by kernel_rfl) (by kernel_rfl) (by kernel_rfl) (by kernel_rfl) Try.func57 (by kernel_rfl) (by kernel_rfl) (by kernel_rfl) (by kernel_rfl) (by kernel_rfl) (by kernel_rfl)
    (Pre.one (hFA_1 u0 u1 s m)) (fun ds => @D.rFnA_1 ⟨ds⟩ u0 u1 m s h (decide_eq_true (by omega)) (right_ok _ rfl) (by have := hasPrefix_ok s m; rw [decide_eq_true hp] at this; exact this)) (by kernel_rfl) (.inr ⟨117, rfl, rfl⟩) (bFnA_1 0) (by kernel_rfl) tr3).move [0, 1, 2] (by kernel_rfl) (by kernel_rfl) (by kernel_rfl)
theorem fromA_mark (u0 u1 : List AVal) (s m : ByteArray) (hp : ¬ (lB m <+: lB s)) :
    FOk Try.prog 40 [.str s, .str m, .slc false 0 1 0 5 none] [.rows false 1 (flA 1 2), .rows true 2 [u0], .rows true 3 [u1]] (.int .i64 140) [.dead, .dead, .dead] :=
  (defer_calls (P := Try.prog) (f := 40) (fn := Try.f40) (c0 := .seq (codeHd (bodyOf Try.f40)) (.seq (.region 1 #[firstOp (codeTail (bodyOf Try.f40))] false) (codeTail (codeTail (bodyOf Try.f40))))) (rest := codeTail (codeTail (bodyOf Try.f40))) (blk := codeTail (bodyOf Try.f57)) (dop := firstOp (codeTail (bodyOf Try.f40))) (rop := firstOp (bodyOf Try.f57)) (gn := Try.f57) (g := 57) (no := 140) (k := 6) (kk := 7) (id := 4) (rid := 1) (rid2 := 0) (ts := #[102, 26]) (tsr := #[]) (xs := [.str s, .str m, .slc false 0 1 0 5 none]) (σ := [.rows false 1 (flA 1 2), .rows true 2 [u0], .rows true 3 [u1]]) (σ1 := [.rows false 1 (flA 1 2), .rows true 2 [u0], .rows true 3 [u1], .rows true 1 [[.str s]], .rows true 1 [[.int .i64 0]]]) (y := ([.int .i64 140], tr 3 ++ []))
    rfl Try.func40 (by kernel_rfl) (by kernel_rfl) (by kernel_rfl) (by kernel_rfl) (by kernel_rfl) Try.func57 (by kernel_rfl) (by kernel_rfl) (by kernel_rfl) (by kernel_rfl) (by kernel_rfl) (by kernel_rfl)
    (Pre.one (hFA_1 u0 u1 s m)) (fun ds => @TripN.deadH (@dsG ⟨ds⟩) _ _ _ _ _ _ _ _ (@D.rFpA_1 ⟨ds⟩ u0 u1 m s (right_no _ rfl) (by have := hasPrefix_ok s m; rw [decide_eq_false hp] at this; exact this)) [true, true, true, true]) (by kernel_rfl) (.inr ⟨117, rfl, rfl⟩) (bFnA_1 0) (by kernel_rfl) tr3).move [0, 1, 2] (by kernel_rfl) (by kernel_rfl) (by kernel_rfl)
end Go.L12
end

section
set_option linter.unusedVariables false
set_option linter.unusedSimpArgs false
set_option maxRecDepth 100000
namespace Go.L12
open Go Go.Abs Go.Proofs

theorem fldzA_1 (z : Int) :
    FOk Try.prog 50 ([AVal.ptr 0 2 0 0, AVal.ptr 1 3 0 0]) ([AObj.rows true 2 [[AVal.int IntKind.i64 z, AVal.int IntKind.i64 0]], AObj.rows false 3 [[AVal.int IntKind.i64 0, AVal.int IntKind.i64 0, AVal.fsl true 0 [] (some 0)]]]) (AVal.slc false 2 1 0 5 (some 5)) ([AObj.rows true 2 [[AVal.int IntKind.i64 z, AVal.int IntKind.i64 0]], AObj.rows false 3 [[AVal.int IntKind.i64 0, AVal.int IntKind.i64 0, AVal.fsl true 0 [] (some 0)]], AObj.rows false 1 (flA 0 1)]) :=
  (evalF_ok followed Try.func50 (by kernel_rfl) (show evalF Try.prog Try.f50 ([AVal.ptr 0 2 0 0, AVal.ptr 1 3 0 0]) ([AObj.rows true 2 [[AVal.int IntKind.i64 z, AVal.int IntKind.i64 0]], AObj.rows false 3 [[AVal.int IntKind.i64 0, AVal.int IntKind.i64 0, AVal.fsl true 0 [] (some 0)]]]) ([]) = .ok (FRes.mk (AVal.slc false 2 1 0 5 (some 5)) ([AObj.rows true 2 [[AVal.int IntKind.i64 z, AVal.int IntKind.i64 0]], AObj.rows false 3 [[AVal.int IntKind.i64 0, AVal.int IntKind.i64 0, AVal.fsl true 0 [] (some 0)]], AObj.rows false 1 (flA 0 1)]) (tr 45 ++ [])) by kernel_rfl) (allP_of (trC 45 trivial))).move ([0, 1, 2]) (by kernel_rfl) (by kernel_rfl) (by kernel_rfl)

end Go.L12
end

section
set_option linter.unusedVariables false
set_option linter.unusedSimpArgs false
set_option maxRecDepth 100000
namespace Go.L12
open Go Go.Abs Go.Proofs

theorem FromA_1 (a0 a1 b0 b1 : Int) (nb : Bool) (rs : List (List AVal)) (s : ByteArray)
    (h1 : FOk Try.prog 40 [AVal.str s, AVal.str (ByteArray.mk #[65]), AVal.slc false 0 1 0 5 (some 5)] [AObj.rows false 1 (flA 1 2), AObj.rows true 2 [[AVal.int IntKind.i64 0, AVal.int IntKind.i64 0]], AObj.rows false 3 [[AVal.int IntKind.i64 0, AVal.int IntKind.i64 0, AVal.fsl true 0 [] (some 0)]]] (AVal.int IntKind.i64 0) [AObj.rows false 1 (flA 1 2), AObj.rows true 2 [[AVal.int IntKind.i64 a0, AVal.int IntKind.i64 a1]], AObj.rows true 3 [[AVal.int IntKind.i64 b0, AVal.int IntKind.i64 b1, AVal.fsl nb 2 rs none]]]) :
    FOk Try.prog 26 ([AVal.str s]) ([]) (AVal.tuple [AVal.agg [AVal.int IntKind.i64 a0, AVal.int IntKind.i64 a1], AVal.agg [AVal.int IntKind.i64 b0, AVal.int IntKind.i64 b1, AVal.fsl nb 2 rs none], AVal.int IntKind.i64 0]) ([]) :=
  (evalF_ok followed Try.func26 (by kernel_rfl) (show evalF Try.prog Try.f26 ([AVal.str s]) ([]) ([Dec.use [2, 3] [AVal.ptr 0 2 0 0, AVal.ptr 1 3 0 0] [AObj.rows true 2 [[AVal.int IntKind.i64 0, AVal.int IntKind.i64 0]], AObj.rows false 3 [[AVal.int IntKind.i64 0, AVal.int IntKind.i64 0, AVal.fsl true 0 [] (some 0)]]] (AVal.slc false 2 1 0 5 (some 5)) [AObj.rows true 2 [[AVal.int IntKind.i64 0, AVal.int IntKind.i64 0]], AObj.rows false 3 [[AVal.int IntKind.i64 0, AVal.int IntKind.i64 0, AVal.fsl true 0 [] (some 0)]], AObj.rows false 1 (flA 0 1)], Dec.use [4, 2, 3] [AVal.str s, AVal.str (ByteArray.mk #[65]), AVal.slc false 0 1 0 5 (some 5)] [AObj.rows false 1 (flA 1 2), AObj.rows true 2 [[AVal.int IntKind.i64 0, AVal.int IntKind.i64 0]], AObj.rows false 3 [[AVal.int IntKind.i64 0, AVal.int IntKind.i64 0, AVal.fsl true 0 [] (some 0)]]] (AVal.int IntKind.i64 0) [AObj.rows false 1 (flA 1 2), AObj.rows true 2 [rA0 a0 a1], AObj.rows true 3 [rA1 b0 b1 (AVal.fsl nb 2 rs none)]], Dec.br false]) = .ok (FRes.mk (AVal.tuple [AVal.agg [AVal.int IntKind.i64 a0, AVal.int IntKind.i64 a1], AVal.agg [AVal.int IntKind.i64 b0, AVal.int IntKind.i64 b1, AVal.fsl nb 2 rs none], AVal.int IntKind.i64 0]) ([AObj.rows true 2 [[AVal.int IntKind.i64 a0, AVal.int IntKind.i64 a1]], AObj.rows false 3 [[AVal.int IntKind.i64 b0, AVal.int IntKind.i64 b1, AVal.fsl nb 2 rs none]], AObj.rows true 2 [[AVal.int IntKind.i64 a0, AVal.int IntKind.i64 a1]], AObj.rows true 3 [[AVal.int IntKind.i64 b0, AVal.int IntKind.i64 b1, AVal.fsl nb 2 rs none]], AObj.rows false 1 (flA 2 3)]) (tr 28 ++ ((false = false) :: ((Owed.use (owed Try.prog 0) 40 [4, 2, 3] [AVal.str s, AVal.str (ByteArray.mk #[65]), AVal.slc false 4 1 0 5 (some 5)] [AObj.rows true 2 [[AVal.int IntKind.i64 0, AVal.int IntKind.i64 0]], AObj.rows false 3 [[AVal.int IntKind.i64 0, AVal.int IntKind.i64 0, AVal.fsl true 0 [] (some 0)]], AObj.rows true 2 [[AVal.int IntKind.i64 0, AVal.int IntKind.i64 0]], AObj.rows false 3 [[AVal.int IntKind.i64 0, AVal.int IntKind.i64 0, AVal.fsl true 0 [] (some 0)]], AObj.rows false 1 (flA 2 3)] [AVal.str s, AVal.str (ByteArray.mk #[65]), AVal.slc false 0 1 0 5 (some 5)] [AObj.rows false 1 (flA 1 2), AObj.rows true 2 [[AVal.int IntKind.i64 0, AVal.int IntKind.i64 0]], AObj.rows false 3 [[AVal.int IntKind.i64 0, AVal.int IntKind.i64 0, AVal.fsl true 0 [] (some 0)]]] (AVal.int IntKind.i64 0) [AObj.rows false 1 (flA 1 2), AObj.rows true 2 [[AVal.int IntKind.i64 a0, AVal.int IntKind.i64 a1]], AObj.rows true 3 [[AVal.int IntKind.i64 b0, AVal.int IntKind.i64 b1, AVal.fsl nb 2 rs none]]]) :: ((Owed.use (owed Try.prog 0) 50 [2, 3] [AVal.ptr 2 2 0 0, AVal.ptr 3 3 0 0] [AObj.rows true 2 [[AVal.int IntKind.i64 0, AVal.int IntKind.i64 0]], AObj.rows false 3 [[AVal.int IntKind.i64 0, AVal.int IntKind.i64 0, AVal.fsl true 0 [] (some 0)]], AObj.rows true 2 [[AVal.int IntKind.i64 0, AVal.int IntKind.i64 0]], AObj.rows false 3 [[AVal.int IntKind.i64 0, AVal.int IntKind.i64 0, AVal.fsl true 0 [] (some 0)]]] [AVal.ptr 0 2 0 0, AVal.ptr 1 3 0 0] [AObj.rows true 2 [[AVal.int IntKind.i64 0, AVal.int IntKind.i64 0]], AObj.rows false 3 [[AVal.int IntKind.i64 0, AVal.int IntKind.i64 0, AVal.fsl true 0 [] (some 0)]]] (AVal.slc false 2 1 0 5 (some 5)) [AObj.rows true 2 [[AVal.int IntKind.i64 0, AVal.int IntKind.i64 0]], AObj.rows false 3 [[AVal.int IntKind.i64 0, AVal.int IntKind.i64 0, AVal.fsl true 0 [] (some 0)]], AObj.rows false 1 (flA 0 1)]) :: []))))) by kernel_rfl) (allP_of (trC 28 ⟨rfl, ⟨⟨h1, rfl, rfl, rfl⟩, ⟨⟨(@Go.L12.fldzA_1 (0)), rfl, rfl, rfl⟩, trivial⟩⟩⟩))).move ([]) (by kernel_rfl) (by kernel_rfl) (by kernel_rfl)

def FromA_T (a0 a1 b0 b1 : Int) (nb : Bool) (rs : List (List AVal)) (s : ByteArray) (Q : AVal → AState → Prop) : Prop := (FOk Try.prog 40 [AVal.str s, AVal.str (ByteArray.mk #[65]), AVal.slc false 0 1 0 5 (some 5)] [AObj.rows false 1 (flA 1 2), AObj.rows true 2 [[AVal.int IntKind.i64 0, AVal.int IntKind.i64 0]], AObj.rows false 3 [[AVal.int IntKind.i64 0, AVal.int IntKind.i64 0, AVal.fsl true 0 [] (some 0)]]] (AVal.int IntKind.i64 0) [AObj.rows false 1 (flA 1 2), AObj.rows true 2 [[AVal.int IntKind.i64 a0, AVal.int IntKind.i64 a1]], AObj.rows true 3 [[AVal.int IntKind.i64 b0, AVal.int IntKind.i64 b1, AVal.fsl nb 2 rs none]]]) ∧ Q (AVal.tuple [AVal.agg [AVal.int IntKind.i64 a0, AVal.int IntKind.i64 a1], AVal.agg [AVal.int IntKind.i64 b0, AVal.int IntKind.i64 b1, AVal.fsl nb 2 rs none], AVal.int IntKind.i64 0]) ([])
theorem FromA_wp (a0 a1 b0 b1 : Int) (nb : Bool) (rs : List (List AVal)) (s : ByteArray) {Q : AVal → AState → Prop} (h : FromA_T a0 a1 b0 b1 nb rs s Q) : ∃ r σ', FOk Try.prog 26 ([AVal.str s]) ([]) r σ' ∧ Q r σ' :=
  ⟨_, _, FromA_1 a0 a1 b0 b1 nb rs s (h.1), h.2⟩


theorem FromNA_1 (s : ByteArray)
    (h1 : FOk Try.prog 40 [AVal.str s, AVal.str (ByteArray.mk #[65]), AVal.slc false 0 1 0 5 (some 5)] [AObj.rows false 1 (flA 1 2), AObj.rows true 2 [[AVal.int IntKind.i64 0, AVal.int IntKind.i64 0]], AObj.rows false 3 [[AVal.int IntKind.i64 0, AVal.int IntKind.i64 0, AVal.fsl true 0 [] (some 0)]]] (AVal.int IntKind.i64 140) [AObj.dead, AObj.dead, AObj.dead]) :
    FOk Try.prog 26 ([AVal.str s]) ([]) (AVal.tuple [AVal.agg [AVal.int IntKind.i64 0, AVal.int IntKind.i64 0], AVal.agg [AVal.int IntKind.i64 0, AVal.int IntKind.i64 0, AVal.fsl true 2 [] none], AVal.int IntKind.i64 140]) ([]) :=
  (evalF_ok followed Try.func26 (by kernel_rfl) (show evalF Try.prog Try.f26 ([AVal.str s]) ([]) ([Dec.use [2, 3] [AVal.ptr 0 2 0 0, AVal.ptr 1 3 0 0] [AObj.rows true 2 [[AVal.int IntKind.i64 0, AVal.int IntKind.i64 0]], AObj.rows false 3 [[AVal.int IntKind.i64 0, AVal.int IntKind.i64 0, AVal.fsl true 0 [] (some 0)]]] (AVal.slc false 2 1 0 5 (some 5)) [AObj.rows true 2 [[AVal.int IntKind.i64 0, AVal.int IntKind.i64 0]], AObj.rows false 3 [[AVal.int IntKind.i64 0, AVal.int IntKind.i64 0, AVal.fsl true 0 [] (some 0)]], AObj.rows false 1 (flA 0 1)], Dec.use [4, 2, 3] [AVal.str s, AVal.str (ByteArray.mk #[65]), AVal.slc false 0 1 0 5 (some 5)] [AObj.rows false 1 (flA 1 2), AObj.rows true 2 [[AVal.int IntKind.i64 0, AVal.int IntKind.i64 0]], AObj.rows false 3 [[AVal.int IntKind.i64 0, AVal.int IntKind.i64 0, AVal.fsl true 0 [] (some 0)]]] (AVal.int IntKind.i64 140) [AObj.dead, AObj.dead, AObj.dead], Dec.br true]) = .ok (FRes.mk (AVal.tuple [AVal.agg [AVal.int IntKind.i64 0, AVal.int IntKind.i64 0], AVal.agg [AVal.int IntKind.i64 0, AVal.int IntKind.i64 0, AVal.fsl true 2 [] none], AVal.int IntKind.i64 140]) ([AObj.rows true 2 [[AVal.int IntKind.i64 0, AVal.int IntKind.i64 0]], AObj.rows false 3 [[AVal.int IntKind.i64 0, AVal.int IntKind.i64 0, AVal.fsl true 0 [] (some 0)]], AObj.dead, AObj.dead, AObj.dead]) (tr 10 ++ ((Owed.use (owed Try.prog 0) 40 [4, 2, 3] [AVal.str s, AVal.str (ByteArray.mk #[65]), AVal.slc false 4 1 0 5 (some 5)] [AObj.rows true 2 [[AVal.int IntKind.i64 0, AVal.int IntKind.i64 0]], AObj.rows false 3 [[AVal.int IntKind.i64 0, AVal.int IntKind.i64 0, AVal.fsl true 0 [] (some 0)]], AObj.rows true 2 [[AVal.int IntKind.i64 0, AVal.int IntKind.i64 0]], AObj.rows false 3 [[AVal.int IntKind.i64 0, AVal.int IntKind.i64 0, AVal.fsl true 0 [] (some 0)]], AObj.rows false 1 (flA 2 3)] [AVal.str s, AVal.str (ByteArray.mk #[65]), AVal.slc false 0 1 0 5 (some 5)] [AObj.rows false 1 (flA 1 2), AObj.rows true 2 [[AVal.int IntKind.i64 0, AVal.int IntKind.i64 0]], AObj.rows false 3 [[AVal.int IntKind.i64 0, AVal.int IntKind.i64 0, AVal.fsl true 0 [] (some 0)]]] (AVal.int IntKind.i64 140) [AObj.dead, AObj.dead, AObj.dead]) :: ((Owed.use (owed Try.prog 0) 50 [2, 3] [AVal.ptr 2 2 0 0, AVal.ptr 3 3 0 0] [AObj.rows true 2 [[AVal.int IntKind.i64 0, AVal.int IntKind.i64 0]], AObj.rows false 3 [[AVal.int IntKind.i64 0, AVal.int IntKind.i64 0, AVal.fsl true 0 [] (some 0)]], AObj.rows true 2 [[AVal.int IntKind.i64 0, AVal.int IntKind.i64 0]], AObj.rows false 3 [[AVal.int IntKind.i64 0, AVal.int IntKind.i64 0, AVal.fsl true 0 [] (some 0)]]] [AVal.ptr 0 2 0 0, AVal.ptr 1 3 0 0] [AObj.rows true 2 [[AVal.int IntKind.i64 0, AVal.int IntKind.i64 0]], AObj.rows false 3 [[AVal.int IntKind.i64 0, AVal.int IntKind.i64 0, AVal.fsl true 0 [] (some 0)]]] (AVal.slc false 2 1 0 5 (some 5)) [AObj.rows true 2 [[AVal.int IntKind.i64 0, AVal.int IntKind.i64 0]], AObj.rows false 3 [[AVal.int IntKind.i64 0, AVal.int IntKind.i64 0, AVal.fsl true 0 [] (some 0)]], AObj.rows false 1 (flA 0 1)]) :: [])))) by kernel_rfl) (allP_of (trC 10 ⟨⟨h1, rfl, rfl, rfl⟩, ⟨⟨(@Go.L12.fldzA_1 (0)), rfl, rfl, rfl⟩, trivial⟩⟩))).move ([]) (by kernel_rfl) (by kernel_rfl) (by kernel_rfl)

def FromNA_T (s : ByteArray) (Q : AVal → AState → Prop) : Prop := (FOk Try.prog 40 [AVal.str s, AVal.str (ByteArray.mk #[65]), AVal.slc false 0 1 0 5 (some 5)] [AObj.rows false 1 (flA 1 2), AObj.rows true 2 [[AVal.int IntKind.i64 0, AVal.int IntKind.i64 0]], AObj.rows false 3 [[AVal.int IntKind.i64 0, AVal.int IntKind.i64 0, AVal.fsl true 0 [] (some 0)]]] (AVal.int IntKind.i64 140) [AObj.dead, AObj.dead, AObj.dead]) ∧ Q (AVal.tuple [AVal.agg [AVal.int IntKind.i64 0, AVal.int IntKind.i64 0], AVal.agg [AVal.int IntKind.i64 0, AVal.int IntKind.i64 0, AVal.fsl true 2 [] none], AVal.int IntKind.i64 140]) ([])
theorem FromNA_wp (s : ByteArray) {Q : AVal → AState → Prop} (h : FromNA_T s Q) : ∃ r σ', FOk Try.prog 26 ([AVal.str s]) ([]) r σ' ∧ Q r σ' :=
  ⟨_, _, FromNA_1 s (h.1), h.2⟩


end Go.L12
end

section
set_option linter.unusedVariables false
set_option linter.unusedSimpArgs false
set_option maxRecDepth 100000
namespace Go.L12
open Go Go.Abs Go.Proofs

def TA : List Nat := [100, 100, 102, 100, 112]
abbrev vsA (a0 a1 b0 b1 : Int) (v : AVal) : List AVal := [.int .i64 a0, .int .i64 a1, .int .i64 b0, .int .i64 b1, v]
theorem unLA {ts : List Nat} {vs : List AVal} (h : allF (112 :: ts) vs) : ∃ rs vs', vs = listV rs :: vs' ∧ isL 112 rs ∧ allF ts vs' := by
  obtain ⟨v, vs', rfl, ⟨n, rfl, h1⟩, h2⟩ := unF h
  exact ⟨n, vs', rfl, h1, h2⟩
theorem typedA {vs : List AVal} (h : allF TA vs) : ∃ (a0 a1 b0 b1 : Int) (rs : List (List AVal)), isL 112 rs ∧ vs = (vsA a0 a1 b0 b1 (listV rs)) := by
  obtain ⟨a0, w0, e0, h0⟩ := unI h
  obtain ⟨a1, w1, e1, h1⟩ := unI h0
  obtain ⟨b0, w2, e2, h2⟩ := unE h1
  obtain ⟨b1, w3, e3, h3⟩ := unI h2
  obtain ⟨rs, w4, e4, hr, h4⟩ := unLA h3
  have e := unN h4
  subst e
  subst e4
  subst e3
  subst e2
  subst e1
  subst e0
  exact ⟨a0, a1, b0, b1, rs, hr, rfl⟩
def zeroA : List AVal × List AVal := ((rA0 0 0), (rA1 0 0 (.fsl true 0 [] (some 0))))
def setA (i : Nat) (u : List AVal × List AVal) (v : AVal) : List AVal × List AVal := if (FA.getD i (0, 0, 0)).2.1 = 0 then (u.1.set (FA.getD i (0, 0, 0)).2.2 v, u.2) else (u.1, u.2.set (FA.getD i (0, 0, 0)).2.2 v)
theorem seqG_A (s : ByteArray) : seqG gtA 5 0 zeroA s = (takeAll TA s).map fun y => (setAll setA 0 zeroA y.1, y.2) := by
  rw [seqG_all (fun i => (FA.getD i (0, 0, 0)).1) setA gtA (fun i u s => rfl)]
  rfl
theorem set_A (a0 a1 b0 b1 : Int) (v : AVal) : setAll setA 0 zeroA (vsA a0 a1 b0 b1 v) = ((rA0 a0 a1), (rA1 b0 b1 v)) := by kernel_rfl
theorem iv0A : ivA 0 zeroA := ⟨_, _, _, _, _, rfl, fun _ => rfl⟩
theorem preA {s s' : ByteArray} (h : lB s = UInt8.ofNat 65 :: lB s') : (lB (ByteArray.mk #[65]) <+: lB s) ∧ s.extract (ByteArray.mk #[65]).size s.size = s' := by
  constructor
  · exact ⟨lB s', h.symm⟩
  · have e := mk_of h
    unfold mk at e
    split at e
    · exact congrArg Prod.fst e
    · have := congrArg Prod.snd e; cases this
theorem fromA_pre {s : ByteArray} {r : AVal} {σ' : AState} (h : FOk Try.prog 40 [.str s, .str ⟨#[65]⟩, .slc false 0 1 0 5 none] [.rows false 1 (flA 1 2), .rows true 2 [(rA0 0 0)], .rows true 3 [(rA1 0 0 (.fsl true 0 [] (some 0)))]] r σ') : FOk Try.prog 40 [.str s, .str ⟨#[65]⟩, .slc false 0 1 0 5 (some 5)] [.rows false 1 (flA 1 2), .rows true 2 [[.int .i64 0, .int .i64 0]], .rows false 3 [[.int .i64 0, .int .i64 0, .fsl true 0 [] (some 0)]]] r σ' := by
  have q : FOk Try.prog 40 [.str s, .str ⟨#[65]⟩, .slc false 0 1 0 5 none] [.rows false 1 (flA 1 2), .rows true 2 [[.int .i64 0, .int .i64 0]], .rows false 3 [[.int .i64 0, .int .i64 0, .fsl true 0 [] (some 0)]]] r σ' := FOk.preObj 2 (.rows true 3 [(rA1 0 0 (.fsl true 0 [] (some 0)))]) h (by simp) rfl (fun F w ρ b h => ORel.unpure h rfl)
  exact q.args ⟨Imp.refl _, Imp.refl _, Imp.slcCap _ _ _ _ _ _, trivial⟩
theorem fromA_is {s : ByteArray} (a0 a1 b0 b1 : Int) (rs : List (List AVal)) (h : Is 65 TA s (vsA a0 a1 b0 b1 (listV rs))) : FOk Try.prog 26 [.str s] [] (.tuple [.agg (rA0 a0 a1), .agg (rA1 b0 b1 (listV rs)), .int .i64 0]) [] := by
  obtain ⟨s', h1, h2⟩ := h
  obtain ⟨p1, p2⟩ := preA h1
  refine FOk.wp (FromA_wp a0 a1 b0 b1 rs.isEmpty rs s ?_)
  unfold FromA_T
  have ht := takesA_ok zeroA iv0A s' (((rA0 a0 a1), (rA1 b0 b1 (listV rs))), ⟨#[]⟩) (by rw [seqG_A, h2]; exact congrArg (fun x => some (x, (⟨#[]⟩ : ByteArray))) (set_A a0 a1 b0 b1 (listV rs)))
  rw [← p2] at ht
  exact ⟨fromA_pre (fromA_ok (rA0 0 0) (rA1 0 0 (.fsl true 0 [] (some 0))) (rA0 a0 a1) (rA1 b0 b1 (listV rs)) s ⟨#[65]⟩ p1 ht), rfl, rfl⟩
theorem fromA_none {s : ByteArray} (h : ∀ vs, ¬ Is 65 TA s vs) : FOk Try.prog 26 [.str s] [] (.tuple [.agg [.int .i64 0, .int .i64 0], .agg [.int .i64 0, .int .i64 0, .fsl true 2 [] none], .int .i64 140]) [] := by
  refine FOk.wp (FromNA_wp s ?_)
  unfold FromNA_T
  refine ⟨fromA_pre ?_, rfl, rfl⟩
  by_cases hp : lB (ByteArray.mk #[65]) <+: lB s
  · obtain ⟨t, ht⟩ := hp
    have h1 : lB s = UInt8.ofNat 65 :: lB (bS t) := by rw [lB_bS]; exact ht.symm
    obtain ⟨p1, p2⟩ := preA h1
    cases hs : takeAll TA (bS t) with
    | none =>
      have hx := takesA_no zeroA iv0A (bS t) (by rw [seqG_A, hs]; rfl)
      rw [← p2] at hx
      exact fromA_no (rA0 0 0) (rA1 0 0 (.fsl true 0 [] (some 0))) s ⟨#[65]⟩ p1 hx
    | some y =>
      have hx := takesA_ok zeroA iv0A (bS t) (setAll setA 0 zeroA y.1, y.2) (by rw [seqG_A, hs]; rfl)
      rw [← p2] at hx
      refine fromA_more (rA0 0 0) (rA1 0 0 (.fsl true 0 [] (some 0))) (setAll setA 0 zeroA y.1).1 (setAll setA 0 zeroA y.1).2 s ⟨#[65]⟩ y.2 p1 (fun h0 => h y.1 ⟨bS t, h1, ?_⟩) hx
      have : y.2 = ⟨#[]⟩ := lB_inj (List.eq_nil_of_length_eq_zero (by rw [lB_length]; exact h0))
      rw [hs, ← this]
  · exact fromA_mark (rA0 0 0) (rA1 0 0 (.fsl true 0 [] (some 0))) s ⟨#[65]⟩ hp
end Go.L12
end

section
set_option linter.unusedVariables false
set_option maxRecDepth 100000
namespace Go.L12
open Go Go.Abs Go.Proofs
def rgfA (n q : Int) : Regs := mkR 64 [(2, .ptr 0 2 0 0), (3, .ptr 1 3 0 0), (5, .ptr 2 2 0 0), (6, .ptr 3 2 0 0), (7, .ptr 4 3 0 0), (8, .int .i64 n), (9, .int .i64 q)]
abbrev hfA (a0 a1 b0 b1 : Int) (b : Bool) (kk : Nat) (rs : List (List AVal)) (p : RS) : AState := [.rows true 2 [[.int .i64 0, .int .i64 0]], .rows false 3 [[.int .i64 0, .int .i64 0, .fsl true 0 [] (some 0)]], .rows true 2 [[.str p.1, .bool p.2]], .rows true 2 [rA0 a0 a1], .rows false 3 [(rA1 b0 b1 (.slc b 5 2 0 kk none))], .rows true 2 rs]
theorem fAr_1 (a0 a1 b0 b1 : Int) (b : Bool) (kk : Nat) (rs : List (List AVal)) (p : RS) (n q : Int)
    (h1 : decide (List.length rs = kk) = true)
    (h2 : decide ((kk + 1) * 32 ≤ 140737488355328 ∧ kk + 1 ≤ 9223372036854775807) = true)
    (h3 : (!Prod.snd p) = true)
    (h4 : decide (q < n) = true) :
    TripN Try.prog 0 (loopNo Try.f27 0) (rgfA n q) (hfA a0 a1 b0 b1 b kk rs p) (AExit.normal) (mkR 64 [(2, AVal.ptr 0 2 0 0), (3, AVal.ptr 1 3 0 0), (5, AVal.ptr 2 2 0 0), (6, AVal.ptr 3 2 0 0), (7, AVal.ptr 4 3 0 0), (8, AVal.int IntKind.i64 n), (9, AVal.int IntKind.i64 (IntKind.wrap IntKind.i64 (q + 1)))]) ([AObj.rows true 2 [[AVal.int IntKind.i64 0, AVal.int IntKind.i64 0]], AObj.rows false 3 [[AVal.int IntKind.i64 0, AVal.int IntKind.i64 0, AVal.fsl true 0 [] (some 0)]], oin (nT (nT p)), AObj.rows true 2 [[AVal.int IntKind.i64 a0, AVal.int IntKind.i64 a1]], AObj.rows false 3 [[AVal.int IntKind.i64 b0, AVal.int IntKind.i64 b1, AVal.slc (b && false) 5 2 0 (kk + 1) none]], AObj.rows true 2 (rs ++ [[AVal.str (vT p), AVal.str (vT (nT p))]])]) :=
  evalT (st := St.mk (rgfA n q) (hfA a0 a1 b0 b1 b kk rs p) ([Dec.br true, Dec.br true, Dec.use [2] [AVal.ptr 0 2 0 0] [oin p] (AVal.str (vT p)) [oin (nT p)], Dec.use [2] [AVal.ptr 0 2 0 0] [oin (nT p)] (AVal.str (vT (nT p))) [oin (nT (nT p))]]) []) (st' := St.mk (mkR 64 [(2, AVal.ptr 0 2 0 0), (3, AVal.ptr 1 3 0 0), (5, AVal.ptr 2 2 0 0), (6, AVal.ptr 3 2 0 0), (7, AVal.ptr 4 3 0 0), (8, AVal.int IntKind.i64 n), (9, AVal.int IntKind.i64 (IntKind.wrap IntKind.i64 (q + 1))), (10, AVal.ptr 6 2 0 0), (32, AVal.int IntKind.i64 q), (33, AVal.int IntKind.i64 n), (34, AVal.bool (decide (q < n))), (35, AVal.tt true), (36, AVal.ptr 2 2 0 0), (37, AVal.ptr 2 2 0 0), (38, AVal.ptr 2 2 0 1), (39, AVal.bool (Prod.snd p)), (40, AVal.bool !Prod.snd p), (41, AVal.tt true), (42, AVal.int IntKind.i64 q), (43, AVal.int IntKind.i64 (IntKind.wrap IntKind.i64 (q + 1))), (44, AVal.agg [AVal.str (ByteArray.mk #[]), AVal.str (ByteArray.mk #[])]), (45, AVal.ptr 2 2 0 0), (46, AVal.str (vT p)), (47, AVal.ptr 6 2 0 0), (48, AVal.ptr 2 2 0 0), (49, AVal.str (vT (nT p))), (50, AVal.ptr 6 2 0 1), (51, AVal.ptr 4 3 0 2), (52, AVal.slc b 5 2 0 kk none), (53, AVal.agg [AVal.str (vT p), AVal.str (vT (nT p))]), (54, AVal.slc false 7 2 0 1 (some 1)), (55, AVal.slc (b && false) 8 2 0 (kk + 1) none), (56, AVal.ptr 4 3 0 2)]) ([AObj.rows true 2 [[AVal.int IntKind.i64 0, AVal.int IntKind.i64 0]], AObj.rows false 3 [[AVal.int IntKind.i64 0, AVal.int IntKind.i64 0, AVal.fsl true 0 [] (some 0)]], oin (nT (nT p)), AObj.rows true 2 [[AVal.int IntKind.i64 a0, AVal.int IntKind.i64 a1]], AObj.rows false 3 [[AVal.int IntKind.i64 b0, AVal.int IntKind.i64 b1, AVal.slc (b && false) 8 2 0 (kk + 1) none]], AObj.dead, AObj.rows true 2 [[AVal.str (vT p), AVal.str (vT (nT p))]], AObj.rows true 2 [[AVal.str (vT p), AVal.str (vT (nT p))]], AObj.rows true 2 (rs ++ [[AVal.str (vT p), AVal.str (vT (nT p))]])]) ([]) (tr 2 ++ ((decide (List.length rs = kk) = true) :: ((decide ((kk + 1) * 32 ≤ 140737488355328 ∧ kk + 1 ≤ 9223372036854775807) = true) :: (tr 9 ++ ((Owed.use (owed Try.prog 0) 45 [2] [AVal.ptr 2 2 0 0] [AObj.rows true 2 [[AVal.int IntKind.i64 0, AVal.int IntKind.i64 0]], AObj.rows false 3 [[AVal.int IntKind.i64 0, AVal.int IntKind.i64 0, AVal.fsl true 0 [] (some 0)]], oin (nT p), AObj.rows true 2 [[AVal.int IntKind.i64 a0, AVal.int IntKind.i64 a1]], AObj.rows false 3 [[AVal.int IntKind.i64 b0, AVal.int IntKind.i64 b1, AVal.slc b 5 2 0 kk none]], AObj.rows true 2 rs, AObj.rows true 2 [[AVal.str (vT p), AVal.str (ByteArray.mk #[])]]] [AVal.ptr 0 2 0 0] [oin (nT p)] (AVal.str (vT (nT p))) [oin (nT (nT p))]) :: (tr 2 ++ ((Owed.use (owed Try.prog 0) 45 [2] [AVal.ptr 2 2 0 0] [AObj.rows true 2 [[AVal.int IntKind.i64 0, AVal.int IntKind.i64 0]], AObj.rows false 3 [[AVal.int IntKind.i64 0, AVal.int IntKind.i64 0, AVal.fsl true 0 [] (some 0)]], oin p, AObj.rows true 2 [[AVal.int IntKind.i64 a0, AVal.int IntKind.i64 a1]], AObj.rows false 3 [[AVal.int IntKind.i64 b0, AVal.int IntKind.i64 b1, AVal.slc b 5 2 0 kk none]], AObj.rows true 2 rs, AObj.rows true 2 [[AVal.str (ByteArray.mk #[]), AVal.str (ByteArray.mk #[])]]] [AVal.ptr 0 2 0 0] [oin p] (AVal.str (vT p)) [oin (nT p)]) :: (tr 2 ++ (((!Prod.snd p) = true) :: (tr 3 ++ ((decide (q < n) = true) :: [])))))))))))) followed (by kernel_rfl) (allP_of (trC 2 ⟨h1, ⟨h2, (trC 9 ⟨⟨(@Go.L12.rtextP (nT p)), rfl, rfl, rfl⟩, (trC 2 ⟨⟨(@Go.L12.rtextP (p)), rfl, rfl, rfl⟩, (trC 2 ⟨h3, (trC 3 ⟨h4, trivial⟩)⟩)⟩)⟩)⟩⟩)) (keepM 64 [2, 3, 5, 6, 7, 8, 9]) ([0, 1, 2, 3, 4, 8]) (by kernel_rfl) (by kernel_rfl) (by kernel_rfl)

theorem fAr_2 (a0 a1 b0 b1 : Int) (b : Bool) (kk : Nat) (rs : List (List AVal)) (p : RS) (n q : Int)
    (h1 : (!Prod.snd p) = false)
    (h2 : decide (q < n) = true) :
    TripN Try.prog 0 (loopNo Try.f27 0) (rgfA n q) (hfA a0 a1 b0 b1 b kk rs p) (AExit.exit 0) (mkR 64 [(2, AVal.ptr 0 2 0 0), (3, AVal.ptr 1 3 0 0), (5, AVal.ptr 2 2 0 0), (6, AVal.ptr 3 2 0 0), (7, AVal.ptr 4 3 0 0), (8, AVal.int IntKind.i64 n), (9, AVal.int IntKind.i64 q)]) ([AObj.rows true 2 [[AVal.int IntKind.i64 0, AVal.int IntKind.i64 0]], AObj.rows false 3 [[AVal.int IntKind.i64 0, AVal.int IntKind.i64 0, AVal.fsl true 0 [] (some 0)]], oin p, AObj.rows true 2 [[AVal.int IntKind.i64 a0, AVal.int IntKind.i64 a1]], AObj.rows false 3 [[AVal.int IntKind.i64 b0, AVal.int IntKind.i64 b1, AVal.slc b 5 2 0 kk none]], AObj.rows true 2 rs]) :=
  evalT (st := St.mk (rgfA n q) (hfA a0 a1 b0 b1 b kk rs p) ([Dec.br true, Dec.br false]) []) (st' := St.mk (mkR 64 [(2, AVal.ptr 0 2 0 0), (3, AVal.ptr 1 3 0 0), (5, AVal.ptr 2 2 0 0), (6, AVal.ptr 3 2 0 0), (7, AVal.ptr 4 3 0 0), (8, AVal.int IntKind.i64 n), (9, AVal.int IntKind.i64 q), (32, AVal.int IntKind.i64 q), (33, AVal.int IntKind.i64 n), (34, AVal.bool (decide (q < n))), (35, AVal.tt true), (36, AVal.ptr 2 2 0 0), (37, AVal.ptr 2 2 0 0), (38, AVal.ptr 2 2 0 1), (39, AVal.bool (Prod.snd p)), (40, AVal.bool !Prod.snd p), (41, AVal.tt false)]) ([AObj.rows true 2 [[AVal.int IntKind.i64 0, AVal.int IntKind.i64 0]], AObj.rows false 3 [[AVal.int IntKind.i64 0, AVal.int IntKind.i64 0, AVal.fsl true 0 [] (some 0)]], oin p, AObj.rows true 2 [[AVal.int IntKind.i64 a0, AVal.int IntKind.i64 a1]], AObj.rows false 3 [[AVal.int IntKind.i64 b0, AVal.int IntKind.i64 b1, AVal.slc b 5 2 0 kk none]], AObj.rows true 2 rs]) ([]) (((!Prod.snd p) = false) :: (tr 3 ++ ((decide (q < n) = true) :: [])))) followed (by kernel_rfl) (allP_of ⟨h1, (trC 3 ⟨h2, trivial⟩)⟩) (keepM 64 [2, 3, 5, 6, 7, 8, 9]) ([0, 1, 2, 3, 4, 5]) (by kernel_rfl) (by kernel_rfl) (by kernel_rfl)

def fAr_T (a0 a1 b0 b1 : Int) (b : Bool) (kk : Nat) (rs : List (List AVal)) (p : RS) (n q : Int) (Q : AExit → Regs → AState → Prop) : Prop := (decide (q < n) = true) ∧ (((!Prod.snd p) = true) → (decide ((kk + 1) * 32 ≤ 140737488355328 ∧ kk + 1 ≤ 9223372036854775807) = true) ∧ (decide (List.length rs = kk) = true) ∧ Q (AExit.normal) (mkR 64 [(2, AVal.ptr 0 2 0 0), (3, AVal.ptr 1 3 0 0), (5, AVal.ptr 2 2 0 0), (6, AVal.ptr 3 2 0 0), (7, AVal.ptr 4 3 0 0), (8, AVal.int IntKind.i64 n), (9, AVal.int IntKind.i64 (IntKind.wrap IntKind.i64 (q + 1)))]) ([AObj.rows true 2 [[AVal.int IntKind.i64 0, AVal.int IntKind.i64 0]], AObj.rows false 3 [[AVal.int IntKind.i64 0, AVal.int IntKind.i64 0, AVal.fsl true 0 [] (some 0)]], oin (nT (nT p)), AObj.rows true 2 [[AVal.int IntKind.i64 a0, AVal.int IntKind.i64 a1]], AObj.rows false 3 [[AVal.int IntKind.i64 b0, AVal.int IntKind.i64 b1, AVal.slc (b && false) 5 2 0 (kk + 1) none]], AObj.rows true 2 (rs ++ [[AVal.str (vT p), AVal.str (vT (nT p))]])])) ∧ (((!Prod.snd p) = false) → Q (AExit.exit 0) (mkR 64 [(2, AVal.ptr 0 2 0 0), (3, AVal.ptr 1 3 0 0), (5, AVal.ptr 2 2 0 0), (6, AVal.ptr 3 2 0 0), (7, AVal.ptr 4 3 0 0), (8, AVal.int IntKind.i64 n), (9, AVal.int IntKind.i64 q)]) ([AObj.rows true 2 [[AVal.int IntKind.i64 0, AVal.int IntKind.i64 0]], AObj.rows false 3 [[AVal.int IntKind.i64 0, AVal.int IntKind.i64 0, AVal.fsl true 0 [] (some 0)]], oin p, AObj.rows true 2 [[AVal.int IntKind.i64 a0, AVal.int IntKind.i64 a1]], AObj.rows false 3 [[AVal.int IntKind.i64 b0, AVal.int IntKind.i64 b1, AVal.slc b 5 2 0 kk none]], AObj.rows true 2 rs]))
theorem fAr_wp (a0 a1 b0 b1 : Int) (b : Bool) (kk : Nat) (rs : List (List AVal)) (p : RS) (n q : Int) {Q : AExit → Regs → AState → Prop} (h : fAr_T a0 a1 b0 b1 b kk rs p n q Q) : ∃ e rg' σ', TripN Try.prog 0 (loopNo Try.f27 0) (rgfA n q) (hfA a0 a1 b0 b1 b kk rs p) e rg' σ' ∧ Q e rg' σ' :=
  brE (fun (c0 : (!Prod.snd p) = true) => ⟨_, _, _, fAr_1 a0 a1 b0 b1 b kk rs p n q ((h.2.1 c0).2.1) ((h.2.1 c0).1) (c0) (h.1), (h.2.1 c0).2.2⟩) (fun (c0 : (!Prod.snd p) = false) => ⟨_, _, _, fAr_2 a0 a1 b0 b1 b kk rs p n q (c0) (h.1), (h.2.2 c0)⟩)


theorem fAx_1 (a0 a1 b0 b1 : Int) (b : Bool) (kk : Nat) (rs : List (List AVal)) (p : RS) (n q : Int)
    (h1 : decide (q < n) = false) :
    TripN Try.prog 0 (loopNo Try.f27 0) (rgfA n q) (hfA a0 a1 b0 b1 b kk rs p) (AExit.exit 0) (mkR 64 [(2, AVal.ptr 0 2 0 0), (3, AVal.ptr 1 3 0 0), (5, AVal.ptr 2 2 0 0), (6, AVal.ptr 3 2 0 0), (7, AVal.ptr 4 3 0 0), (8, AVal.int IntKind.i64 n), (9, AVal.int IntKind.i64 q)]) ([AObj.rows true 2 [[AVal.int IntKind.i64 0, AVal.int IntKind.i64 0]], AObj.rows false 3 [[AVal.int IntKind.i64 0, AVal.int IntKind.i64 0, AVal.fsl true 0 [] (some 0)]], oin p, AObj.rows true 2 [[AVal.int IntKind.i64 a0, AVal.int IntKind.i64 a1]], AObj.rows false 3 [[AVal.int IntKind.i64 b0, AVal.int IntKind.i64 b1, AVal.slc b 5 2 0 kk none]], AObj.rows true 2 rs]) :=
  evalT (st := St.mk (rgfA n q) (hfA a0 a1 b0 b1 b kk rs p) ([Dec.br false]) []) (st' := St.mk (mkR 64 [(2, AVal.ptr 0 2 0 0), (3, AVal.ptr 1 3 0 0), (5, AVal.ptr 2 2 0 0), (6, AVal.ptr 3 2 0 0), (7, AVal.ptr 4 3 0 0), (8, AVal.int IntKind.i64 n), (9, AVal.int IntKind.i64 q), (32, AVal.int IntKind.i64 q), (33, AVal.int IntKind.i64 n), (34, AVal.bool (decide (q < n))), (35, AVal.tt false), (36, AVal.tuple []), (37, AVal.tuple []), (38, AVal.tuple []), (39, AVal.tuple []), (40, AVal.tuple []), (41, AVal.tt false)]) ([AObj.rows true 2 [[AVal.int IntKind.i64 0, AVal.int IntKind.i64 0]], AObj.rows false 3 [[AVal.int IntKind.i64 0, AVal.int IntKind.i64 0, AVal.fsl true 0 [] (some 0)]], oin p, AObj.rows true 2 [[AVal.int IntKind.i64 a0, AVal.int IntKind.i64 a1]], AObj.rows false 3 [[AVal.int IntKind.i64 b0, AVal.int IntKind.i64 b1, AVal.slc b 5 2 0 kk none]], AObj.rows true 2 rs]) ([]) ((decide (q < n) = false) :: [])) followed (by kernel_rfl) (allP_of ⟨h1, trivial⟩) (keepM 64 [2, 3, 5, 6, 7, 8, 9]) ([0, 1, 2, 3, 4, 5]) (by kernel_rfl) (by kernel_rfl) (by kernel_rfl)

def fAx_T (a0 a1 b0 b1 : Int) (b : Bool) (kk : Nat) (rs : List (List AVal)) (p : RS) (n q : Int) (Q : AExit → Regs → AState → Prop) : Prop := (decide (q < n) = false) ∧ Q (AExit.exit 0) (mkR 64 [(2, AVal.ptr 0 2 0 0), (3, AVal.ptr 1 3 0 0), (5, AVal.ptr 2 2 0 0), (6, AVal.ptr 3 2 0 0), (7, AVal.ptr 4 3 0 0), (8, AVal.int IntKind.i64 n), (9, AVal.int IntKind.i64 q)]) ([AObj.rows true 2 [[AVal.int IntKind.i64 0, AVal.int IntKind.i64 0]], AObj.rows false 3 [[AVal.int IntKind.i64 0, AVal.int IntKind.i64 0, AVal.fsl true 0 [] (some 0)]], oin p, AObj.rows true 2 [[AVal.int IntKind.i64 a0, AVal.int IntKind.i64 a1]], AObj.rows false 3 [[AVal.int IntKind.i64 b0, AVal.int IntKind.i64 b1, AVal.slc b 5 2 0 kk none]], AObj.rows true 2 rs])
theorem fAx_wp (a0 a1 b0 b1 : Int) (b : Bool) (kk : Nat) (rs : List (List AVal)) (p : RS) (n q : Int) {Q : AExit → Regs → AState → Prop} (h : fAx_T a0 a1 b0 b1 b kk rs p n q Q) : ∃ e rg' σ', TripN Try.prog 0 (loopNo Try.f27 0) (rgfA n q) (hfA a0 a1 b0 b1 b kk rs p) e rg' σ' ∧ Q e rg' σ' :=
  ⟨_, _, _, fAx_1 a0 a1 b0 b1 b kk rs p n q (h.1), h.2⟩


end Go.L12
end

section
set_option linter.unusedVariables false
set_option linter.unusedSimpArgs false
set_option maxRecDepth 100000
namespace Go.L12
open Go Go.Abs Go.Proofs
theorem fA_loop (a0 a1 b0 b1 : Int) (n : Nat) (hn : n ≤ 64) : ∀ (d q : Nat), q + d = n → ∀ (u : List (List AVal)) (p : RS), u.length ≤ q →
    ∃ k : Int, LoopRun Try.prog 0 (loopNo Try.f27 0) (rgfA (n : Nat) (q : Nat)) (hfA a0 a1 b0 b1 u.isEmpty u.length u p) (.exit 0) (rgfA (n : Nat) k) (hfA a0 a1 b0 b1 (u ++ (rdN 112 d p).1).isEmpty (u ++ (rdN 112 d p).1).length (u ++ (rdN 112 d p).1) (rdN 112 d p).2)
  | 0, q, hq, u, p, hu => by
    refine ⟨(q : Nat), ?_⟩
    have e : rdN 112 0 p = ([], p) := rfl
    rw [e]
    simp only [List.append_nil]
    exact .done (TripN.wp (fAx_wp a0 a1 b0 b1 u.isEmpty u.length u p (n : Nat) (q : Nat) ⟨decide_eq_false (by omega), rfl, rfl, rfl⟩)) (by simp)
  | d + 1, q, hq, u, p, hu => by
    have w1 : IntKind.wrap .i64 ((q : Int) + 1) = ((q + 1 : Nat) : Int) := by rw [wrapS (by omega) (by omega)]; omega
    cases hp : p.2 with
    | true =>
      refine ⟨(q : Nat), ?_⟩
      have e : rdN 112 (d + 1) p = ([], p) := by simp only [rdN]; rw [if_pos hp]
      rw [e]
      simp only [List.append_nil]
      refine .done (TripN.wp (fAr_wp a0 a1 b0 b1 u.isEmpty u.length u p (n : Nat) (q : Nat) ?_)) (by simp)
      unfold fAr_T
      exact ⟨decide_eq_true (by omega), fun c => absurd c (by rw [hp]; simp), fun _ => ⟨rfl, rfl, rfl⟩⟩
    | false =>
      have e : rdN 112 (d + 1) p = ((rdR 112 p).1 :: (rdN 112 d (rdR 112 p).2).1, (rdN 112 d (rdR 112 p).2).2) := by simp only [rdN]; rw [if_neg (by rw [hp]; simp)]
      obtain ⟨k, ih⟩ := fA_loop a0 a1 b0 b1 n hn d (q + 1) (by omega) (u ++ [(rdR 112 p).1]) (rdR 112 p).2 (by simp; omega)
      refine ⟨k, ?_⟩
      rw [e]
      rw [List.append_assoc] at ih
      refine .more ?_ ih
      refine TripN.wp (fAr_wp a0 a1 b0 b1 u.isEmpty u.length u p (n : Nat) (q : Nat) ?_)
      unfold fAr_T
      rw [w1]
      refine ⟨decide_eq_true (by omega), fun _ => ⟨decide_eq_true (by omega), decide_eq_true rfl, rfl, rfl, ?_⟩, fun c => absurd c (by rw [hp]; simp)⟩
      rw [Bool.and_false, List.length_append, show (u ++ [(rdR 112 p).1]).isEmpty = false by cases u <;> rfl]
      rfl
theorem fA_list (a0 a1 b0 b1 : Int) (n : Nat) (hn : n ≤ 64) (p : RS) :
    TripN Try.prog 0 (.loop (loopNo Try.f27 0)) (rgfA (n : Nat) 0) [.rows true 2 [[.int .i64 0, .int .i64 0]], .rows false 3 [[.int .i64 0, .int .i64 0, .fsl true 0 [] (some 0)]], .rows true 2 [[.str p.1, .bool p.2]], .rows true 2 [rA0 a0 a1], .rows false 3 [(rA1 b0 b1 (.fsl true 0 [] (some 0)))]] (.exit 0) (mkR 64 [(2, .ptr 0 2 0 0), (3, .ptr 1 3 0 0), (5, .ptr 2 2 0 0), (6, .ptr 3 2 0 0), (7, .ptr 4 3 0 0)]) [.rows true 2 [[.int .i64 0, .int .i64 0]], .rows false 3 [[.int .i64 0, .int .i64 0, .fsl true 0 [] (some 0)]], .rows true 2 [[.str (rdN 112 n p).2.1, .bool (rdN 112 n p).2.2]], .rows true 2 [rA0 a0 a1], .rows true 3 [(rA1 b0 b1 (listV (rdN 112 n p).1))]] := by
  obtain ⟨k, r⟩ := fA_loop a0 a1 b0 b1 n hn n 0 (by omega) [] p (by simp)
  rw [List.nil_append] at r
  have h1 := TripN.freezeCell r.trip (id := 4) (id2 := 5) (j := 2) (es := 3) (es2 := 2) (off := 0) (len := (rdN 112 n p).1.length) (nl := (rdN 112 n p).1.isEmpty) (p := true) (cap := none) (row := (rA1 b0 b1 (.slc (rdN 112 n p).1.isEmpty 5 2 0 (rdN 112 n p).1.length none))) (rs := (rdN 112 n p).1) rfl rfl rfl (by decide) rfl (by omega) (fun q v hv hne => by
    match q, hv, hne with
    | 0, hv, hne => cases hv; rfl
    | 1, hv, hne => cases hv; rfl
    | 2, hv, hne => exact absurd rfl hne
    | q + 3, hv, hne => exact absurd hv (by simp))
  rw [List.drop_zero, List.take_length] at h1
  have h2 := h1.post (rg2 := (mkR 64 [(2, .ptr 0 2 0 0), (3, .ptr 1 3 0 0), (5, .ptr 2 2 0 0), (6, .ptr 3 2 0 0), (7, .ptr 4 3 0 0)])) (σ2 := [.rows true 2 [[.int .i64 0, .int .i64 0]], .rows false 3 [[.int .i64 0, .int .i64 0, .fsl true 0 [] (some 0)]], .rows true 2 [[.str (rdN 112 n p).2.1, .bool (rdN 112 n p).2.2]], .rows true 2 [rA0 a0 a1], .rows true 3 [(rA1 b0 b1 (listV (rdN 112 n p).1))]]) (keepM 64 [2, 3, 5, 6, 7]) [0, 1, 2, 3, 4] (by kernel_rfl) rfl (by kernel_rfl)
  refine TripN.ext (S := [.rows true 2 [[.int .i64 0, .int .i64 0]], .rows false 3 [[.int .i64 0, .int .i64 0, .fsl true 0 [] (some 0)]], .rows true 2 [[.str p.1, .bool p.2]], .rows true 2 [rA0 a0 a1], .rows false 3 [(rA1 b0 b1 (.fsl true 0 [] (some 0)))], .rows true 2 []]) ?_ rfl
  refine TripN.weakCell (id := 4) (es' := 3) (rs := [(rA1 b0 b1 (.fsl true 0 [] (some 0)))]) (i := 0) (j := 2) (v' := (.slc true 5 2 0 0 none)) ?_ rfl (Imp.nilSlc _ _ _ _ _)
  exact h2
end Go.L12
end

section
set_option linter.unusedVariables false
set_option maxRecDepth 100000
namespace Go.L12
open Go Go.Abs Go.Proofs
theorem rFromA_1 (s : ByteArray) (p : RS) (p2 : RS) (nb : Bool) (rs : List (List AVal))
    (h1 : (!decide (Prod.snd p2 = false ∧ ByteArray.size (Prod.fst p2) = 0)) = true)
    (h2 : TripN Try.prog 0 (Code.loop (loopNo Try.f27 0)) (mkR 64 [(2, AVal.ptr 0 2 0 0), (3, AVal.ptr 1 3 0 0), (5, AVal.ptr 2 2 0 0), (6, AVal.ptr 3 2 0 0), (7, AVal.ptr 4 3 0 0), (8, AVal.int IntKind.i64 (vM 64 (nI (nI (nI (nI p)))))), (9, AVal.int IntKind.i64 0)]) [AObj.rows true 2 [[AVal.int IntKind.i64 0, AVal.int IntKind.i64 0]], AObj.rows false 3 [[AVal.int IntKind.i64 0, AVal.int IntKind.i64 0, AVal.fsl true 0 [] (some 0)]], oin (nM 64 (nI (nI (nI (nI p))))), AObj.rows true 2 [[AVal.int IntKind.i64 (vI p), AVal.int IntKind.i64 (vI (nI p))]], AObj.rows false 3 [[AVal.int IntKind.i64 (vI (nI (nI p))), AVal.int IntKind.i64 (vI (nI (nI (nI p)))), AVal.fsl true 0 [] (some 0)]]] (AExit.exit 0) (mkR 64 [(2, AVal.ptr 0 2 0 0), (3, AVal.ptr 1 3 0 0), (5, AVal.ptr 2 2 0 0), (6, AVal.ptr 3 2 0 0), (7, AVal.ptr 4 3 0 0)]) [AObj.rows true 2 [[AVal.int IntKind.i64 0, AVal.int IntKind.i64 0]], AObj.rows false 3 [[AVal.int IntKind.i64 0, AVal.int IntKind.i64 0, AVal.fsl true 0 [] (some 0)]], oin p2, AObj.rows true 2 [[AVal.int IntKind.i64 (vI p), AVal.int IntKind.i64 (vI (nI p))]], AObj.rows true 3 [[AVal.int IntKind.i64 (vI (nI (nI p))), AVal.int IntKind.i64 (vI (nI (nI (nI p)))), AVal.fsl nb 2 rs none]]])
    (h3 : FOk Try.prog 41 [AVal.ptr 0 2 0 0, AVal.int IntKind.u8 65] [AObj.rows true 2 [[AVal.str s, AVal.tt false]]] (AVal.tuple []) [oin p]) :
    FOk Try.prog 27 ([AVal.str s]) ([]) (AVal.tuple [AVal.agg [AVal.int IntKind.i64 0, AVal.int IntKind.i64 0], AVal.agg [AVal.int IntKind.i64 0, AVal.int IntKind.i64 0, AVal.fsl true 2 [] none], AVal.int IntKind.i64 140]) ([]) :=
  (evalF_ok followed Try.func27 (by kernel_rfl) (show evalF Try.prog Try.f27 ([AVal.str s]) ([]) ([Dec.use [2] [AVal.ptr 0 2 0 0, AVal.int IntKind.u8 65] [AObj.rows true 2 [[AVal.str s, AVal.tt false]]] (AVal.tuple []) [oin p], Dec.use [2] [AVal.ptr 0 2 0 0] [oin p] (AVal.int IntKind.i64 (vI p)) [oin (nI p)], Dec.use [2] [AVal.ptr 0 2 0 0] [oin (nI p)] (AVal.int IntKind.i64 (vI (nI p))) [oin (nI (nI p))], Dec.use [2] [AVal.ptr 0 2 0 0] [oin (nI (nI p))] (AVal.int IntKind.i64 (vI (nI (nI p)))) [oin (nI (nI (nI p)))], Dec.use [2] [AVal.ptr 0 2 0 0] [oin (nI (nI (nI p)))] (AVal.int IntKind.i64 (vI (nI (nI (nI p))))) [oin (nI (nI (nI (nI p))))], Dec.use [2] [AVal.ptr 0 2 0 0, AVal.int IntKind.i64 64] [oin (nI (nI (nI (nI p))))] (AVal.int IntKind.i64 (vM 64 (nI (nI (nI (nI p)))))) [oin (nM 64 (nI (nI (nI (nI p)))))], Dec.compact (keepM 64 [2, 3, 5, 6, 7, 8, 9]) [0, 1, 2, 3, 4], Dec.loop (AExit.exit 0) (mkR 64 [(2, AVal.ptr 0 2 0 0), (3, AVal.ptr 1 3 0 0), (5, AVal.ptr 2 2 0 0), (6, AVal.ptr 3 2 0 0), (7, AVal.ptr 4 3 0 0)]) [AObj.rows true 2 [[AVal.int IntKind.i64 0, AVal.int IntKind.i64 0]], AObj.rows false 3 [[AVal.int IntKind.i64 0, AVal.int IntKind.i64 0, AVal.fsl true 0 [] (some 0)]], oin p2, AObj.rows true 2 [rA0 (vI p) (vI (nI p))], AObj.rows true 3 [rA1 (vI (nI (nI p))) (vI (nI (nI (nI p)))) (AVal.fsl nb 2 rs none)]], Dec.use [2] [AVal.ptr 0 2 0 0] [oin p2] (AVal.bool (decide (Prod.snd p2 = false ∧ ByteArray.size (Prod.fst p2) = 0))) [oin p2], Dec.br true]) = .ok (FRes.mk (AVal.tuple [AVal.agg [AVal.int IntKind.i64 0, AVal.int IntKind.i64 0], AVal.agg [AVal.int IntKind.i64 0, AVal.int IntKind.i64 0, AVal.fsl true 2 [] none], AVal.int IntKind.i64 140]) ([AObj.rows true 2 [[AVal.int IntKind.i64 0, AVal.int IntKind.i64 0]], AObj.rows false 3 [[AVal.int IntKind.i64 0, AVal.int IntKind.i64 0, AVal.fsl true 0 [] (some 0)]], oin p2, AObj.rows true 2 [[AVal.int IntKind.i64 (vI p), AVal.int IntKind.i64 (vI (nI p))]], AObj.rows true 3 [[AVal.int IntKind.i64 (vI (nI (nI p))), AVal.int IntKind.i64 (vI (nI (nI (nI p)))), AVal.fsl nb 2 rs none]]]) (tr 9 ++ (((!decide (Prod.snd p2 = false ∧ ByteArray.size (Prod.fst p2) = 0)) = true) :: ((Owed.use (owed Try.prog 0) 46 [2] [AVal.ptr 2 2 0 0] [AObj.rows true 2 [[AVal.int IntKind.i64 0, AVal.int IntKind.i64 0]], AObj.rows false 3 [[AVal.int IntKind.i64 0, AVal.int IntKind.i64 0, AVal.fsl true 0 [] (some 0)]], oin p2, AObj.rows true 2 [[AVal.int IntKind.i64 (vI p), AVal.int IntKind.i64 (vI (nI p))]], AObj.rows true 3 [[AVal.int IntKind.i64 (vI (nI (nI p))), AVal.int IntKind.i64 (vI (nI (nI (nI p)))), AVal.fsl nb 2 rs none]]] [AVal.ptr 0 2 0 0] [oin p2] (AVal.bool (decide (Prod.snd p2 = false ∧ ByteArray.size (Prod.fst p2) = 0))) [oin p2]) :: ((Owed.loop (owed Try.prog 0) (loopNo Try.f27 0) (mkR 64 [(2, AVal.ptr 0 2 0 0), (3, AVal.ptr 1 3 0 0), (5, AVal.ptr 2 2 0 0), (6, AVal.ptr 3 2 0 0), (7, AVal.ptr 4 3 0 0), (8, AVal.int IntKind.i64 (vM 64 (nI (nI (nI (nI p)))))), (9, AVal.int IntKind.i64 0)]) [AObj.rows true 2 [[AVal.int IntKind.i64 0, AVal.int IntKind.i64 0]], AObj.rows false 3 [[AVal.int IntKind.i64 0, AVal.int IntKind.i64 0, AVal.fsl true 0 [] (some 0)]], oin (nM 64 (nI (nI (nI (nI p))))), AObj.rows true 2 [[AVal.int IntKind.i64 (vI p), AVal.int IntKind.i64 (vI (nI p))]], AObj.rows false 3 [[AVal.int IntKind.i64 (vI (nI (nI p))), AVal.int IntKind.i64 (vI (nI (nI (nI p)))), AVal.fsl true 0 [] (some 0)]]] (AExit.exit 0) (mkR 64 [(2, AVal.ptr 0 2 0 0), (3, AVal.ptr 1 3 0 0), (5, AVal.ptr 2 2 0 0), (6, AVal.ptr 3 2 0 0), (7, AVal.ptr 4 3 0 0)]) [AObj.rows true 2 [[AVal.int IntKind.i64 0, AVal.int IntKind.i64 0]], AObj.rows false 3 [[AVal.int IntKind.i64 0, AVal.int IntKind.i64 0, AVal.fsl true 0 [] (some 0)]], oin p2, AObj.rows true 2 [[AVal.int IntKind.i64 (vI p), AVal.int IntKind.i64 (vI (nI p))]], AObj.rows true 3 [[AVal.int IntKind.i64 (vI (nI (nI p))), AVal.int IntKind.i64 (vI (nI (nI (nI p)))), AVal.fsl nb 2 rs none]]]) :: ((Owed.use (owed Try.prog 0) 43 [2] [AVal.ptr 2 2 0 0, AVal.int IntKind.i64 64] [AObj.rows true 2 [[AVal.int IntKind.i64 0, AVal.int IntKind.i64 0]], AObj.rows false 3 [[AVal.int IntKind.i64 0, AVal.int IntKind.i64 0, AVal.fsl true 0 [] (some 0)]], oin (nI (nI (nI (nI p)))), AObj.rows true 2 [[AVal.int IntKind.i64 (vI p), AVal.int IntKind.i64 (vI (nI p))]], AObj.rows false 3 [[AVal.int IntKind.i64 (vI (nI (nI p))), AVal.int IntKind.i64 (vI (nI (nI (nI p)))), AVal.fsl true 0 [] (some 0)]]] [AVal.ptr 0 2 0 0, AVal.int IntKind.i64 64] [oin (nI (nI (nI (nI p))))] (AVal.int IntKind.i64 (vM 64 (nI (nI (nI (nI p)))))) [oin (nM 64 (nI (nI (nI (nI p)))))]) :: (tr 2 ++ ((Owed.use (owed Try.prog 0) 42 [2] [AVal.ptr 2 2 0 0] [AObj.rows true 2 [[AVal.int IntKind.i64 0, AVal.int IntKind.i64 0]], AObj.rows false 3 [[AVal.int IntKind.i64 0, AVal.int IntKind.i64 0, AVal.fsl true 0 [] (some 0)]], oin (nI (nI (nI p))), AObj.rows true 2 [[AVal.int IntKind.i64 (vI p), AVal.int IntKind.i64 (vI (nI p))]], AObj.rows false 3 [[AVal.int IntKind.i64 (vI (nI (nI p))), AVal.int IntKind.i64 0, AVal.fsl true 0 [] (some 0)]]] [AVal.ptr 0 2 0 0] [oin (nI (nI (nI p)))] (AVal.int IntKind.i64 (vI (nI (nI (nI p))))) [oin (nI (nI (nI (nI p))))]) :: (tr 2 ++ ((Owed.use (owed Try.prog 0) 42 [2] [AVal.ptr 2 2 0 0] [AObj.rows true 2 [[AVal.int IntKind.i64 0, AVal.int IntKind.i64 0]], AObj.rows false 3 [[AVal.int IntKind.i64 0, AVal.int IntKind.i64 0, AVal.fsl true 0 [] (some 0)]], oin (nI (nI p)), AObj.rows true 2 [[AVal.int IntKind.i64 (vI p), AVal.int IntKind.i64 (vI (nI p))]], AObj.rows false 3 [[AVal.int IntKind.i64 0, AVal.int IntKind.i64 0, AVal.fsl true 0 [] (some 0)]]] [AVal.ptr 0 2 0 0] [oin (nI (nI p))] (AVal.int IntKind.i64 (vI (nI (nI p)))) [oin (nI (nI (nI p)))]) :: (tr 4 ++ ((Owed.use (owed Try.prog 0) 42 [2] [AVal.ptr 2 2 0 0] [AObj.rows true 2 [[AVal.int IntKind.i64 0, AVal.int IntKind.i64 0]], AObj.rows false 3 [[AVal.int IntKind.i64 0, AVal.int IntKind.i64 0, AVal.fsl true 0 [] (some 0)]], oin (nI p), AObj.rows true 2 [[AVal.int IntKind.i64 (vI p), AVal.int IntKind.i64 0]]] [AVal.ptr 0 2 0 0] [oin (nI p)] (AVal.int IntKind.i64 (vI (nI p))) [oin (nI (nI p))]) :: (tr 2 ++ ((Owed.use (owed Try.prog 0) 42 [2] [AVal.ptr 2 2 0 0] [AObj.rows true 2 [[AVal.int IntKind.i64 0, AVal.int IntKind.i64 0]], AObj.rows false 3 [[AVal.int IntKind.i64 0, AVal.int IntKind.i64 0, AVal.fsl true 0 [] (some 0)]], oin p, AObj.rows true 2 [[AVal.int IntKind.i64 0, AVal.int IntKind.i64 0]]] [AVal.ptr 0 2 0 0] [oin p] (AVal.int IntKind.i64 (vI p)) [oin (nI p)]) :: (tr 2 ++ ((Owed.use (owed Try.prog 0) 41 [2] [AVal.ptr 2 2 0 0, AVal.int IntKind.u8 65] [AObj.rows true 2 [[AVal.int IntKind.i64 0, AVal.int IntKind.i64 0]], AObj.rows false 3 [[AVal.int IntKind.i64 0, AVal.int IntKind.i64 0, AVal.fsl true 0 [] (some 0)]], AObj.rows true 2 [[AVal.str s, AVal.tt false]]] [AVal.ptr 0 2 0 0, AVal.int IntKind.u8 65] [AObj.rows true 2 [[AVal.str s, AVal.tt false]]] (AVal.tuple []) [oin p]) :: [])))))))))))))))) by kernel_rfl) (allP_of (trC 9 ⟨h1, ⟨⟨(@Go.L12.rfineP (p2)), rfl, rfl, rfl⟩, ⟨h2, ⟨⟨(@Go.L12.rmostP (64) (nI (nI (nI (nI p))))), rfl, rfl, rfl⟩, (trC 2 ⟨⟨(@Go.L12.rnumP (nI (nI (nI p)))), rfl, rfl, rfl⟩, (trC 2 ⟨⟨(@Go.L12.rnumP (nI (nI p))), rfl, rfl, rfl⟩, (trC 4 ⟨⟨(@Go.L12.rnumP (nI p)), rfl, rfl, rfl⟩, (trC 2 ⟨⟨(@Go.L12.rnumP (p)), rfl, rfl, rfl⟩, (trC 2 ⟨⟨h3, rfl, rfl, rfl⟩, trivial⟩)⟩)⟩)⟩)⟩)⟩⟩⟩⟩))).move ([]) (by kernel_rfl) (by kernel_rfl) (by kernel_rfl)

theorem rFromA_2 (s : ByteArray) (p : RS) (p2 : RS) (nb : Bool) (rs : List (List AVal))
    (h1 : (!decide (Prod.snd p2 = false ∧ ByteArray.size (Prod.fst p2) = 0)) = false)
    (h2 : TripN Try.prog 0 (Code.loop (loopNo Try.f27 0)) (mkR 64 [(2, AVal.ptr 0 2 0 0), (3, AVal.ptr 1 3 0 0), (5, AVal.ptr 2 2 0 0), (6, AVal.ptr 3 2 0 0), (7, AVal.ptr 4 3 0 0), (8, AVal.int IntKind.i64 (vM 64 (nI (nI (nI (nI p)))))), (9, AVal.int IntKind.i64 0)]) [AObj.rows true 2 [[AVal.int IntKind.i64 0, AVal.int IntKind.i64 0]], AObj.rows false 3 [[AVal.int IntKind.i64 0, AVal.int IntKind.i64 0, AVal.fsl true 0 [] (some 0)]], oin (nM 64 (nI (nI (nI (nI p))))), AObj.rows true 2 [[AVal.int IntKind.i64 (vI p), AVal.int IntKind.i64 (vI (nI p))]], AObj.rows false 3 [[AVal.int IntKind.i64 (vI (nI (nI p))), AVal.int IntKind.i64 (vI (nI (nI (nI p)))), AVal.fsl true 0 [] (some 0)]]] (AExit.exit 0) (mkR 64 [(2, AVal.ptr 0 2 0 0), (3, AVal.ptr 1 3 0 0), (5, AVal.ptr 2 2 0 0), (6, AVal.ptr 3 2 0 0), (7, AVal.ptr 4 3 0 0)]) [AObj.rows true 2 [[AVal.int IntKind.i64 0, AVal.int IntKind.i64 0]], AObj.rows false 3 [[AVal.int IntKind.i64 0, AVal.int IntKind.i64 0, AVal.fsl true 0 [] (some 0)]], oin p2, AObj.rows true 2 [[AVal.int IntKind.i64 (vI p), AVal.int IntKind.i64 (vI (nI p))]], AObj.rows true 3 [[AVal.int IntKind.i64 (vI (nI (nI p))), AVal.int IntKind.i64 (vI (nI (nI (nI p)))), AVal.fsl nb 2 rs none]]])
    (h3 : FOk Try.prog 41 [AVal.ptr 0 2 0 0, AVal.int IntKind.u8 65] [AObj.rows true 2 [[AVal.str s, AVal.tt false]]] (AVal.tuple []) [oin p]) :
    FOk Try.prog 27 ([AVal.str s]) ([]) (AVal.tuple [AVal.agg [AVal.int IntKind.i64 (vI p), AVal.int IntKind.i64 (vI (nI p))], AVal.agg [AVal.int IntKind.i64 (vI (nI (nI p))), AVal.int IntKind.i64 (vI (nI (nI (nI p)))), AVal.fsl nb 2 rs none], AVal.int IntKind.i64 0]) ([]) :=
  (evalF_ok followed Try.func27 (by kernel_rfl) (show evalF Try.prog Try.f27 ([AVal.str s]) ([]) ([Dec.use [2] [AVal.ptr 0 2 0 0, AVal.int IntKind.u8 65] [AObj.rows true 2 [[AVal.str s, AVal.tt false]]] (AVal.tuple []) [oin p], Dec.use [2] [AVal.ptr 0 2 0 0] [oin p] (AVal.int IntKind.i64 (vI p)) [oin (nI p)], Dec.use [2] [AVal.ptr 0 2 0 0] [oin (nI p)] (AVal.int IntKind.i64 (vI (nI p))) [oin (nI (nI p))], Dec.use [2] [AVal.ptr 0 2 0 0] [oin (nI (nI p))] (AVal.int IntKind.i64 (vI (nI (nI p)))) [oin (nI (nI (nI p)))], Dec.use [2] [AVal.ptr 0 2 0 0] [oin (nI (nI (nI p)))] (AVal.int IntKind.i64 (vI (nI (nI (nI p))))) [oin (nI (nI (nI (nI p))))], Dec.use [2] [AVal.ptr 0 2 0 0, AVal.int IntKind.i64 64] [oin (nI (nI (nI (nI p))))] (AVal.int IntKind.i64 (vM 64 (nI (nI (nI (nI p)))))) [oin (nM 64 (nI (nI (nI (nI p)))))], Dec.compact (keepM 64 [2, 3, 5, 6, 7, 8, 9]) [0, 1, 2, 3, 4], Dec.loop (AExit.exit 0) (mkR 64 [(2, AVal.ptr 0 2 0 0), (3, AVal.ptr 1 3 0 0), (5, AVal.ptr 2 2 0 0), (6, AVal.ptr 3 2 0 0), (7, AVal.ptr 4 3 0 0)]) [AObj.rows true 2 [[AVal.int IntKind.i64 0, AVal.int IntKind.i64 0]], AObj.rows false 3 [[AVal.int IntKind.i64 0, AVal.int IntKind.i64 0, AVal.fsl true 0 [] (some 0)]], oin p2, AObj.rows true 2 [rA0 (vI p) (vI (nI p))], AObj.rows true 3 [rA1 (vI (nI (nI p))) (vI (nI (nI (nI p)))) (AVal.fsl nb 2 rs none)]], Dec.use [2] [AVal.ptr 0 2 0 0] [oin p2] (AVal.bool (decide (Prod.snd p2 = false ∧ ByteArray.size (Prod.fst p2) = 0))) [oin p2], Dec.br false]) = .ok (FRes.mk (AVal.tuple [AVal.agg [AVal.int IntKind.i64 (vI p), AVal.int IntKind.i64 (vI (nI p))], AVal.agg [AVal.int IntKind.i64 (vI (nI (nI p))), AVal.int IntKind.i64 (vI (nI (nI (nI p)))), AVal.fsl nb 2 rs none], AVal.int IntKind.i64 0]) ([AObj.rows true 2 [[AVal.int IntKind.i64 (vI p), AVal.int IntKind.i64 (vI (nI p))]], AObj.rows false 3 [[AVal.int IntKind.i64 (vI (nI (nI p))), AVal.int IntKind.i64 (vI (nI (nI (nI p)))), AVal.fsl nb 2 rs none]], oin p2, AObj.rows true 2 [[AVal.int IntKind.i64 (vI p), AVal.int IntKind.i64 (vI (nI p))]], AObj.rows true 3 [[AVal.int IntKind.i64 (vI (nI (nI p))), AVal.int IntKind.i64 (vI (nI (nI (nI p)))), AVal.fsl nb 2 rs none]]]) (tr 28 ++ (((!decide (Prod.snd p2 = false ∧ ByteArray.size (Prod.fst p2) = 0)) = false) :: ((Owed.use (owed Try.prog 0) 46 [2] [AVal.ptr 2 2 0 0] [AObj.rows true 2 [[AVal.int IntKind.i64 0, AVal.int IntKind.i64 0]], AObj.rows false 3 [[AVal.int IntKind.i64 0, AVal.int IntKind.i64 0, AVal.fsl true 0 [] (some 0)]], oin p2, AObj.rows true 2 [[AVal.int IntKind.i64 (vI p), AVal.int IntKind.i64 (vI (nI p))]], AObj.rows true 3 [[AVal.int IntKind.i64 (vI (nI (nI p))), AVal.int IntKind.i64 (vI (nI (nI (nI p)))), AVal.fsl nb 2 rs none]]] [AVal.ptr 0 2 0 0] [oin p2] (AVal.bool (decide (Prod.snd p2 = false ∧ ByteArray.size (Prod.fst p2) = 0))) [oin p2]) :: ((Owed.loop (owed Try.prog 0) (loopNo Try.f27 0) (mkR 64 [(2, AVal.ptr 0 2 0 0), (3, AVal.ptr 1 3 0 0), (5, AVal.ptr 2 2 0 0), (6, AVal.ptr 3 2 0 0), (7, AVal.ptr 4 3 0 0), (8, AVal.int IntKind.i64 (vM 64 (nI (nI (nI (nI p)))))), (9, AVal.int IntKind.i64 0)]) [AObj.rows true 2 [[AVal.int IntKind.i64 0, AVal.int IntKind.i64 0]], AObj.rows false 3 [[AVal.int IntKind.i64 0, AVal.int IntKind.i64 0, AVal.fsl true 0 [] (some 0)]], oin (nM 64 (nI (nI (nI (nI p))))), AObj.rows true 2 [[AVal.int IntKind.i64 (vI p), AVal.int IntKind.i64 (vI (nI p))]], AObj.rows false 3 [[AVal.int IntKind.i64 (vI (nI (nI p))), AVal.int IntKind.i64 (vI (nI (nI (nI p)))), AVal.fsl true 0 [] (some 0)]]] (AExit.exit 0) (mkR 64 [(2, AVal.ptr 0 2 0 0), (3, AVal.ptr 1 3 0 0), (5, AVal.ptr 2 2 0 0), (6, AVal.ptr 3 2 0 0), (7, AVal.ptr 4 3 0 0)]) [AObj.rows true 2 [[AVal.int IntKind.i64 0, AVal.int IntKind.i64 0]], AObj.rows false 3 [[AVal.int IntKind.i64 0, AVal.int IntKind.i64 0, AVal.fsl true 0 [] (some 0)]], oin p2, AObj.rows true 2 [[AVal.int IntKind.i64 (vI p), AVal.int IntKind.i64 (vI (nI p))]], AObj.rows true 3 [[AVal.int IntKind.i64 (vI (nI (nI p))), AVal.int IntKind.i64 (vI (nI (nI (nI p)))), AVal.fsl nb 2 rs none]]]) :: ((Owed.use (owed Try.prog 0) 43 [2] [AVal.ptr 2 2 0 0, AVal.int IntKind.i64 64] [AObj.rows true 2 [[AVal.int IntKind.i64 0, AVal.int IntKind.i64 0]], AObj.rows false 3 [[AVal.int IntKind.i64 0, AVal.int IntKind.i64 0, AVal.fsl true 0 [] (some 0)]], oin (nI (nI (nI (nI p)))), AObj.rows true 2 [[AVal.int IntKind.i64 (vI p), AVal.int IntKind.i64 (vI (nI p))]], AObj.rows false 3 [[AVal.int IntKind.i64 (vI (nI (nI p))), AVal.int IntKind.i64 (vI (nI (nI (nI p)))), AVal.fsl true 0 [] (some 0)]]] [AVal.ptr 0 2 0 0, AVal.int IntKind.i64 64] [oin (nI (nI (nI (nI p))))] (AVal.int IntKind.i64 (vM 64 (nI (nI (nI (nI p)))))) [oin (nM 64 (nI (nI (nI (nI p)))))]) :: (tr 2 ++ ((Owed.use (owed Try.prog 0) 42 [2] [AVal.ptr 2 2 0 0] [AObj.rows true 2 [[AVal.int IntKind.i64 0, AVal.int IntKind.i64 0]], AObj.rows false 3 [[AVal.int IntKind.i64 0, AVal.int IntKind.i64 0, AVal.fsl true 0 [] (some 0)]], oin (nI (nI (nI p))), AObj.rows true 2 [[AVal.int IntKind.i64 (vI p), AVal.int IntKind.i64 (vI (nI p))]], AObj.rows false 3 [[AVal.int IntKind.i64 (vI (nI (nI p))), AVal.int IntKind.i64 0, AVal.fsl true 0 [] (some 0)]]] [AVal.ptr 0 2 0 0] [oin (nI (nI (nI p)))] (AVal.int IntKind.i64 (vI (nI (nI (nI p))))) [oin (nI (nI (nI (nI p))))]) :: (tr 2 ++ ((Owed.use (owed Try.prog 0) 42 [2] [AVal.ptr 2 2 0 0] [AObj.rows true 2 [[AVal.int IntKind.i64 0, AVal.int IntKind.i64 0]], AObj.rows false 3 [[AVal.int IntKind.i64 0, AVal.int IntKind.i64 0, AVal.fsl true 0 [] (some 0)]], oin (nI (nI p)), AObj.rows true 2 [[AVal.int IntKind.i64 (vI p), AVal.int IntKind.i64 (vI (nI p))]], AObj.rows false 3 [[AVal.int IntKind.i64 0, AVal.int IntKind.i64 0, AVal.fsl true 0 [] (some 0)]]] [AVal.ptr 0 2 0 0] [oin (nI (nI p))] (AVal.int IntKind.i64 (vI (nI (nI p)))) [oin (nI (nI (nI p)))]) :: (tr 4 ++ ((Owed.use (owed Try.prog 0) 42 [2] [AVal.ptr 2 2 0 0] [AObj.rows true 2 [[AVal.int IntKind.i64 0, AVal.int IntKind.i64 0]], AObj.rows false 3 [[AVal.int IntKind.i64 0, AVal.int IntKind.i64 0, AVal.fsl true 0 [] (some 0)]], oin (nI p), AObj.rows true 2 [[AVal.int IntKind.i64 (vI p), AVal.int IntKind.i64 0]]] [AVal.ptr 0 2 0 0] [oin (nI p)] (AVal.int IntKind.i64 (vI (nI p))) [oin (nI (nI p))]) :: (tr 2 ++ ((Owed.use (owed Try.prog 0) 42 [2] [AVal.ptr 2 2 0 0] [AObj.rows true 2 [[AVal.int IntKind.i64 0, AVal.int IntKind.i64 0]], AObj.rows false 3 [[AVal.int IntKind.i64 0, AVal.int IntKind.i64 0, AVal.fsl true 0 [] (some 0)]], oin p, AObj.rows true 2 [[AVal.int IntKind.i64 0, AVal.int IntKind.i64 0]]] [AVal.ptr 0 2 0 0] [oin p] (AVal.int IntKind.i64 (vI p)) [oin (nI p)]) :: (tr 2 ++ ((Owed.use (owed Try.prog 0) 41 [2] [AVal.ptr 2 2 0 0, AVal.int IntKind.u8 65] [AObj.rows true 2 [[AVal.int IntKind.i64 0, AVal.int IntKind.i64 0]], AObj.rows false 3 [[AVal.int IntKind.i64 0, AVal.int IntKind.i64 0, AVal.fsl true 0 [] (some 0)]], AObj.rows true 2 [[AVal.str s, AVal.tt false]]] [AVal.ptr 0 2 0 0, AVal.int IntKind.u8 65] [AObj.rows true 2 [[AVal.str s, AVal.tt false]]] (AVal.tuple []) [oin p]) :: [])))))))))))))))) by kernel_rfl) (allP_of (trC 28 ⟨h1, ⟨⟨(@Go.L12.rfineP (p2)), rfl, rfl, rfl⟩, ⟨h2, ⟨⟨(@Go.L12.rmostP (64) (nI (nI (nI (nI p))))), rfl, rfl, rfl⟩, (trC 2 ⟨⟨(@Go.L12.rnumP (nI (nI (nI p)))), rfl, rfl, rfl⟩, (trC 2 ⟨⟨(@Go.L12.rnumP (nI (nI p))), rfl, rfl, rfl⟩, (trC 4 ⟨⟨(@Go.L12.rnumP (nI p)), rfl, rfl, rfl⟩, (trC 2 ⟨⟨(@Go.L12.rnumP (p)), rfl, rfl, rfl⟩, (trC 2 ⟨⟨h3, rfl, rfl, rfl⟩, trivial⟩)⟩)⟩)⟩)⟩)⟩⟩⟩⟩))).move ([]) (by kernel_rfl) (by kernel_rfl) (by kernel_rfl)

def rFromA_T (s : ByteArray) (p : RS) (p2 : RS) (nb : Bool) (rs : List (List AVal)) (Q : AVal → AState → Prop) : Prop := (FOk Try.prog 41 [AVal.ptr 0 2 0 0, AVal.int IntKind.u8 65] [AObj.rows true 2 [[AVal.str s, AVal.tt false]]] (AVal.tuple []) [oin p]) ∧ (TripN Try.prog 0 (Code.loop (loopNo Try.f27 0)) (mkR 64 [(2, AVal.ptr 0 2 0 0), (3, AVal.ptr 1 3 0 0), (5, AVal.ptr 2 2 0 0), (6, AVal.ptr 3 2 0 0), (7, AVal.ptr 4 3 0 0), (8, AVal.int IntKind.i64 (vM 64 (nI (nI (nI (nI p)))))), (9, AVal.int IntKind.i64 0)]) [AObj.rows true 2 [[AVal.int IntKind.i64 0, AVal.int IntKind.i64 0]], AObj.rows false 3 [[AVal.int IntKind.i64 0, AVal.int IntKind.i64 0, AVal.fsl true 0 [] (some 0)]], oin (nM 64 (nI (nI (nI (nI p))))), AObj.rows true 2 [[AVal.int IntKind.i64 (vI p), AVal.int IntKind.i64 (vI (nI p))]], AObj.rows false 3 [[AVal.int IntKind.i64 (vI (nI (nI p))), AVal.int IntKind.i64 (vI (nI (nI (nI p)))), AVal.fsl true 0 [] (some 0)]]] (AExit.exit 0) (mkR 64 [(2, AVal.ptr 0 2 0 0), (3, AVal.ptr 1 3 0 0), (5, AVal.ptr 2 2 0 0), (6, AVal.ptr 3 2 0 0), (7, AVal.ptr 4 3 0 0)]) [AObj.rows true 2 [[AVal.int IntKind.i64 0, AVal.int IntKind.i64 0]], AObj.rows false 3 [[AVal.int IntKind.i64 0, AVal.int IntKind.i64 0, AVal.fsl true 0 [] (some 0)]], oin p2, AObj.rows true 2 [[AVal.int IntKind.i64 (vI p), AVal.int IntKind.i64 (vI (nI p))]], AObj.rows true 3 [[AVal.int IntKind.i64 (vI (nI (nI p))), AVal.int IntKind.i64 (vI (nI (nI (nI p)))), AVal.fsl nb 2 rs none]]]) ∧ (((!decide (Prod.snd p2 = false ∧ ByteArray.size (Prod.fst p2) = 0)) = true) → Q (AVal.tuple [AVal.agg [AVal.int IntKind.i64 0, AVal.int IntKind.i64 0], AVal.agg [AVal.int IntKind.i64 0, AVal.int IntKind.i64 0, AVal.fsl true 2 [] none], AVal.int IntKind.i64 140]) ([])) ∧ (((!decide (Prod.snd p2 = false ∧ ByteArray.size (Prod.fst p2) = 0)) = false) → Q (AVal.tuple [AVal.agg [AVal.int IntKind.i64 (vI p), AVal.int IntKind.i64 (vI (nI p))], AVal.agg [AVal.int IntKind.i64 (vI (nI (nI p))), AVal.int IntKind.i64 (vI (nI (nI (nI p)))), AVal.fsl nb 2 rs none], AVal.int IntKind.i64 0]) ([]))
theorem rFromA_wp (s : ByteArray) (p : RS) (p2 : RS) (nb : Bool) (rs : List (List AVal)) {Q : AVal → AState → Prop} (h : rFromA_T s p p2 nb rs Q) : ∃ r σ', FOk Try.prog 27 ([AVal.str s]) ([]) r σ' ∧ Q r σ' :=
  brE (fun (c0 : (!decide (Prod.snd p2 = false ∧ ByteArray.size (Prod.fst p2) = 0)) = true) => ⟨_, _, rFromA_1 s p p2 nb rs (c0) (h.2.1) (h.1), (h.2.2.1 c0)⟩) (fun (c0 : (!decide (Prod.snd p2 = false ∧ ByteArray.size (Prod.fst p2) = 0)) = false) => ⟨_, _, rFromA_2 s p p2 nb rs (c0) (h.2.1) (h.1), (h.2.2.2 c0)⟩)


end Go.L12
end

section
set_option linter.unusedVariables false
set_option linter.unusedSimpArgs false
set_option maxRecDepth 100000
namespace Go.L12
open Go Go.Abs Go.Proofs
theorem osA (a0 a1 b0 b1 : Int) (rs : List (List AVal)) : putAll TA (vsA a0 a1 b0 b1 (listV rs)) = seqL [pI a0, pI a1, pI b0, pI b1, pL 112 rs] := by
  rw [putAll_L]
  rfl
theorem rfromA_wp' (s : ByteArray) (Q : AVal → AState → Prop)
    (h1 : (!decide ((rdAll TA (mk 65 s)).2.2 = false ∧ (rdAll TA (mk 65 s)).2.1.size = 0)) = true → Q (.tuple [.agg [.int .i64 0, .int .i64 0], .agg [.int .i64 0, .int .i64 0, .fsl true 2 [] none], .int .i64 140]) [])
    (h2 : (!decide ((rdAll TA (mk 65 s)).2.2 = false ∧ (rdAll TA (mk 65 s)).2.1.size = 0)) = false → Q (.tuple [.agg (setAll setA 0 zeroA (rdAll TA (mk 65 s)).1).1, .agg (setAll setA 0 zeroA (rdAll TA (mk 65 s)).1).2, .int .i64 0]) []) : ∃ r σ', FOk Try.prog 27 [.str s] [] r σ' ∧ Q r σ' := by
  have hv : 0 ≤ vM 64 (nI (nI (nI (nI (mk 65 s))))) ∧ vM 64 (nI (nI (nI (nI (mk 65 s))))) ≤ 64 := by
    have := vI_nn (nI (nI (nI (nI (mk 65 s)))))
    unfold vM; split <;> omega
  have en : (((vM 64 (nI (nI (nI (nI (mk 65 s)))))).toNat : Nat) : Int) = vM 64 (nI (nI (nI (nI (mk 65 s))))) := Int.toNat_of_nonneg hv.1
  have lp := fA_list (vI (mk 65 s)) (vI (nI (mk 65 s))) (vI (nI (nI (mk 65 s)))) (vI (nI (nI (nI (mk 65 s))))) (vM 64 (nI (nI (nI (nI (mk 65 s)))))).toNat (by omega) (nM 64 (nI (nI (nI (nI (mk 65 s))))))
  rw [en] at lp
  refine rFromA_wp s (mk 65 s) (rdN 112 (vM 64 (nI (nI (nI (nI (mk 65 s)))))).toNat (nM 64 (nI (nI (nI (nI (mk 65 s))))))).2 (rdN 112 (vM 64 (nI (nI (nI (nI (mk 65 s)))))).toNat (nM 64 (nI (nI (nI (nI (mk 65 s))))))).1.isEmpty (rdN 112 (vM 64 (nI (nI (nI (nI (mk 65 s)))))).toNat (nM 64 (nI (nI (nI (nI (mk 65 s))))))).1 ?_
  unfold rFromA_T
  exact ⟨rmarkP s 65 (by omega), lp, fun c => h1 c, fun c => h2 c⟩
theorem rfromA_is {s : ByteArray} (a0 a1 b0 b1 : Int) (rs : List (List AVal)) (h : Is 65 TA s (vsA a0 a1 b0 b1 (listV rs))) : FOk Try.prog 27 [.str s] [] (.tuple [.agg (rA0 a0 a1), .agg (rA1 b0 b1 (listV rs)), .int .i64 0]) [] := by
  have e := is_rd h
  refine FOk.wp (rfromA_wp' s _ (fun c => ?_) (fun _ => ⟨?_, rfl⟩))
  · exfalso
    rw [e] at c
    have c : (!decide (false = false ∧ (ByteArray.mk #[]).size = 0)) = true := c
    exact absurd c (by decide)
  · rw [e]
    kernel_rfl
theorem rfromA_none {s : ByteArray} (h : ∀ vs, ¬ Is 65 TA s vs) : FOk Try.prog 27 [.str s] [] (.tuple [.agg [.int .i64 0, .int .i64 0], .agg [.int .i64 0, .int .i64 0, .fsl true 2 [] none], .int .i64 140]) [] := by
  refine FOk.wp (rfromA_wp' s _ (fun c => ⟨rfl, rfl⟩) (fun c => ?_))
  exfalso
  have c2 : (rdAll TA (mk 65 s)).2.2 = false ∧ (rdAll TA (mk 65 s)).2.1.size = 0 := by simpa using c
  exact h _ (rd_is c2.1 c2.2)
end Go.L12
end

section
set_option linter.unusedVariables false
set_option maxRecDepth 100000
namespace Go.L12
open Go Go.Abs Go.Proofs
def rgse (nb nb2 : Bool) (rs : List (List AVal)) (q : Int) : Regs := mkR 26 [(0, .fsl nb 2 rs none), (1, .fsl nb2 2 rs none), (5, .int .i64 q)]
theorem sePr_1 (nb nb2 : Bool) (rs : List (List AVal)) (q : Int)
    (h1 : (!(fun r => ByteArray.toList (AVal.toStr (List.getD (List.getD rs (Int.toNat q) []) 0 AVal.any)) == ByteArray.toList (AVal.toStr (List.getD (List.getD rs (Int.toNat q) []) 0 AVal.any)) && r) ((fun r => ByteArray.toList (AVal.toStr (List.getD (List.getD rs (Int.toNat q) []) 1 AVal.any)) == ByteArray.toList (AVal.toStr (List.getD (List.getD rs (Int.toNat q) []) 1 AVal.any)) && r) true)) = true)
    (h2 : decide (Int.toNat q < List.length rs) = true)
    (h3 : areKinds [Kind.str, Kind.str] [List.getD (List.getD rs (Int.toNat q) []) 0 AVal.any, List.getD (List.getD rs (Int.toNat q) []) 1 AVal.any] = true)
    (h4 : decide (0 ≤ q ∧ q < (↑(List.length rs) : Int)) = true)
    (h5 : decide (q < (↑(List.length rs) : Int)) = true) :
    TripN Try.prog 0 (loopNo Try.f62 0) (rgse nb nb2 rs q) ([]) (AExit.ret) (mkR 26 [(4, AVal.tt false)]) ([]) :=
  evalT (st := St.mk (rgse nb nb2 rs q) ([]) ([Dec.br true, Dec.br true]) []) (st' := St.mk (mkR 26 [(0, AVal.fsl nb 2 rs none), (1, AVal.fsl nb2 2 rs none), (4, AVal.tt false), (5, AVal.int IntKind.i64 q), (11, AVal.int IntKind.i64 q), (12, AVal.fsl nb 2 rs none), (13, AVal.int IntKind.i64 (↑(List.length rs) : Int)), (14, AVal.tt true), (17, AVal.fsl nb 2 rs none), (18, AVal.int IntKind.i64 q), (19, AVal.fptr 2 rs (Int.toNat q) 0), (20, AVal.agg [AVal.str (AVal.toStr (List.getD (List.getD rs (Int.toNat q) []) 0 AVal.any)), AVal.str (AVal.toStr (List.getD (List.getD rs (Int.toNat q) []) 1 AVal.any))]), (21, AVal.fsl nb2 2 rs none), (22, AVal.int IntKind.i64 q), (23, AVal.fptr 2 rs (Int.toNat q) 0), (24, AVal.agg [AVal.str (AVal.toStr (List.getD (List.getD rs (Int.toNat q) []) 0 AVal.any)), AVal.str (AVal.toStr (List.getD (List.getD rs (Int.toNat q) []) 1 AVal.any))]), (25, AVal.tt true)]) ([]) ([]) (((!(fun r => ByteArray.toList (AVal.toStr (List.getD (List.getD rs (Int.toNat q) []) 0 AVal.any)) == ByteArray.toList (AVal.toStr (List.getD (List.getD rs (Int.toNat q) []) 0 AVal.any)) && r) ((fun r => ByteArray.toList (AVal.toStr (List.getD (List.getD rs (Int.toNat q) []) 1 AVal.any)) == ByteArray.toList (AVal.toStr (List.getD (List.getD rs (Int.toNat q) []) 1 AVal.any)) && r) true)) = true) :: (tr 4 ++ ((decide (Int.toNat q < List.length rs) = true) :: (tr 1 ++ ((areKinds [Kind.str, Kind.str] [List.getD (List.getD rs (Int.toNat q) []) 0 AVal.any, List.getD (List.getD rs (Int.toNat q) []) 1 AVal.any] = true) :: (tr 2 ++ ((decide (0 ≤ q ∧ q < (↑(List.length rs) : Int)) = true) :: (tr 6 ++ ((decide (Int.toNat q < List.length rs) = true) :: (tr 1 ++ ((areKinds [Kind.str, Kind.str] [List.getD (List.getD rs (Int.toNat q) []) 0 AVal.any, List.getD (List.getD rs (Int.toNat q) []) 1 AVal.any] = true) :: (tr 2 ++ ((decide (0 ≤ q ∧ q < (↑(List.length rs) : Int)) = true) :: (tr 5 ++ ((decide (q < (↑(List.length rs) : Int)) = true) :: [])))))))))))))))) followed (by kernel_rfl) (allP_of ⟨h1, (trC 4 ⟨h2, (trC 1 ⟨h3, (trC 2 ⟨h4, (trC 6 ⟨h2, (trC 1 ⟨h3, (trC 2 ⟨h4, (trC 5 ⟨h5, trivial⟩)⟩)⟩)⟩)⟩)⟩)⟩)⟩) (keepM 26 [4]) ([]) (by kernel_rfl) (by kernel_rfl) (by kernel_rfl)

theorem sePr_2 (nb nb2 : Bool) (rs : List (List AVal)) (q : Int)
    (h1 : (!(fun r => ByteArray.toList (AVal.toStr (List.getD (List.getD rs (Int.toNat q) []) 0 AVal.any)) == ByteArray.toList (AVal.toStr (List.getD (List.getD rs (Int.toNat q) []) 0 AVal.any)) && r) ((fun r => ByteArray.toList (AVal.toStr (List.getD (List.getD rs (Int.toNat q) []) 1 AVal.any)) == ByteArray.toList (AVal.toStr (List.getD (List.getD rs (Int.toNat q) []) 1 AVal.any)) && r) true)) = false)
    (h2 : decide (Int.toNat q < List.length rs) = true)
    (h3 : areKinds [Kind.str, Kind.str] [List.getD (List.getD rs (Int.toNat q) []) 0 AVal.any, List.getD (List.getD rs (Int.toNat q) []) 1 AVal.any] = true)
    (h4 : decide (0 ≤ q ∧ q < (↑(List.length rs) : Int)) = true)
    (h5 : decide (q < (↑(List.length rs) : Int)) = true) :
    TripN Try.prog 0 (loopNo Try.f62 0) (rgse nb nb2 rs q) ([]) (AExit.normal) (mkR 26 [(0, AVal.fsl nb 2 rs none), (1, AVal.fsl nb2 2 rs none), (5, AVal.int IntKind.i64 (IntKind.wrap IntKind.i64 (q + 1)))]) ([]) :=
  evalT (st := St.mk (rgse nb nb2 rs q) ([]) ([Dec.br true, Dec.br false]) []) (st' := St.mk (mkR 26 [(0, AVal.fsl nb 2 rs none), (1, AVal.fsl nb2 2 rs none), (5, AVal.int IntKind.i64 (IntKind.wrap IntKind.i64 (q + 1))), (11, AVal.int IntKind.i64 q), (12, AVal.fsl nb 2 rs none), (13, AVal.int IntKind.i64 (↑(List.length rs) : Int)), (14, AVal.tt true), (15, AVal.int IntKind.i64 q), (16, AVal.int IntKind.i64 (IntKind.wrap IntKind.i64 (q + 1))), (17, AVal.fsl nb 2 rs none), (18, AVal.int IntKind.i64 q), (19, AVal.fptr 2 rs (Int.toNat q) 0), (20, AVal.agg [AVal.str (AVal.toStr (List.getD (List.getD rs (Int.toNat q) []) 0 AVal.any)), AVal.str (AVal.toStr (List.getD (List.getD rs (Int.toNat q) []) 1 AVal.any))]), (21, AVal.fsl nb2 2 rs none), (22, AVal.int IntKind.i64 q), (23, AVal.fptr 2 rs (Int.toNat q) 0), (24, AVal.agg [AVal.str (AVal.toStr (List.getD (List.getD rs (Int.toNat q) []) 0 AVal.any)), AVal.str (AVal.toStr (List.getD (List.getD rs (Int.toNat q) []) 1 AVal.any))]), (25, AVal.tt false)]) ([]) ([]) (((!(fun r => ByteArray.toList (AVal.toStr (List.getD (List.getD rs (Int.toNat q) []) 0 AVal.any)) == ByteArray.toList (AVal.toStr (List.getD (List.getD rs (Int.toNat q) []) 0 AVal.any)) && r) ((fun r => ByteArray.toList (AVal.toStr (List.getD (List.getD rs (Int.toNat q) []) 1 AVal.any)) == ByteArray.toList (AVal.toStr (List.getD (List.getD rs (Int.toNat q) []) 1 AVal.any)) && r) true)) = false) :: (tr 4 ++ ((decide (Int.toNat q < List.length rs) = true) :: (tr 1 ++ ((areKinds [Kind.str, Kind.str] [List.getD (List.getD rs (Int.toNat q) []) 0 AVal.any, List.getD (List.getD rs (Int.toNat q) []) 1 AVal.any] = true) :: (tr 2 ++ ((decide (0 ≤ q ∧ q < (↑(List.length rs) : Int)) = true) :: (tr 6 ++ ((decide (Int.toNat q < List.length rs) = true) :: (tr 1 ++ ((areKinds [Kind.str, Kind.str] [List.getD (List.getD rs (Int.toNat q) []) 0 AVal.any, List.getD (List.getD rs (Int.toNat q) []) 1 AVal.any] = true) :: (tr 2 ++ ((decide (0 ≤ q ∧ q < (↑(List.length rs) : Int)) = true) :: (tr 5 ++ ((decide (q < (↑(List.length rs) : Int)) = true) :: [])))))))))))))))) followed (by kernel_rfl) (allP_of ⟨h1, (trC 4 ⟨h2, (trC 1 ⟨h3, (trC 2 ⟨h4, (trC 6 ⟨h2, (trC 1 ⟨h3, (trC 2 ⟨h4, (trC 5 ⟨h5, trivial⟩)⟩)⟩)⟩)⟩)⟩)⟩)⟩) (keepM 26 [0, 1, 5]) ([]) (by kernel_rfl) (by kernel_rfl) (by kernel_rfl)

def sePr_T (nb nb2 : Bool) (rs : List (List AVal)) (q : Int) (Q : AExit → Regs → AState → Prop) : Prop := (decide (q < (↑(List.length rs) : Int)) = true) ∧ (decide (0 ≤ q ∧ q < (↑(List.length rs) : Int)) = true) ∧ (areKinds [Kind.str, Kind.str] [List.getD (List.getD rs (Int.toNat q) []) 0 AVal.any, List.getD (List.getD rs (Int.toNat q) []) 1 AVal.any] = true) ∧ (decide (Int.toNat q < List.length rs) = true) ∧ (((!(fun r => ByteArray.toList (AVal.toStr (List.getD (List.getD rs (Int.toNat q) []) 0 AVal.any)) == ByteArray.toList (AVal.toStr (List.getD (List.getD rs (Int.toNat q) []) 0 AVal.any)) && r) ((fun r => ByteArray.toList (AVal.toStr (List.getD (List.getD rs (Int.toNat q) []) 1 AVal.any)) == ByteArray.toList (AVal.toStr (List.getD (List.getD rs (Int.toNat q) []) 1 AVal.any)) && r) true)) = true) → Q (AExit.ret) (mkR 26 [(4, AVal.tt false)]) ([])) ∧ (((!(fun r => ByteArray.toList (AVal.toStr (List.getD (List.getD rs (Int.toNat q) []) 0 AVal.any)) == ByteArray.toList (AVal.toStr (List.getD (List.getD rs (Int.toNat q) []) 0 AVal.any)) && r) ((fun r => ByteArray.toList (AVal.toStr (List.getD (List.getD rs (Int.toNat q) []) 1 AVal.any)) == ByteArray.toList (AVal.toStr (List.getD (List.getD rs (Int.toNat q) []) 1 AVal.any)) && r) true)) = false) → Q (AExit.normal) (mkR 26 [(0, AVal.fsl nb 2 rs none), (1, AVal.fsl nb2 2 rs none), (5, AVal.int IntKind.i64 (IntKind.wrap IntKind.i64 (q + 1)))]) ([]))
theorem sePr_wp (nb nb2 : Bool) (rs : List (List AVal)) (q : Int) {Q : AExit → Regs → AState → Prop} (h : sePr_T nb nb2 rs q Q) : ∃ e rg' σ', TripN Try.prog 0 (loopNo Try.f62 0) (rgse nb nb2 rs q) ([]) e rg' σ' ∧ Q e rg' σ' :=
  brE (fun (c0 : (!(fun r => ByteArray.toList (AVal.toStr (List.getD (List.getD rs (Int.toNat q) []) 0 AVal.any)) == ByteArray.toList (AVal.toStr (List.getD (List.getD rs (Int.toNat q) []) 0 AVal.any)) && r) ((fun r => ByteArray.toList (AVal.toStr (List.getD (List.getD rs (Int.toNat q) []) 1 AVal.any)) == ByteArray.toList (AVal.toStr (List.getD (List.getD rs (Int.toNat q) []) 1 AVal.any)) && r) true)) = true) => ⟨_, _, _, sePr_1 nb nb2 rs q (c0) (h.2.2.2.1) (h.2.2.1) (h.2.1) (h.1), (h.2.2.2.2.1 c0)⟩) (fun (c0 : (!(fun r => ByteArray.toList (AVal.toStr (List.getD (List.getD rs (Int.toNat q) []) 0 AVal.any)) == ByteArray.toList (AVal.toStr (List.getD (List.getD rs (Int.toNat q) []) 0 AVal.any)) && r) ((fun r => ByteArray.toList (AVal.toStr (List.getD (List.getD rs (Int.toNat q) []) 1 AVal.any)) == ByteArray.toList (AVal.toStr (List.getD (List.getD rs (Int.toNat q) []) 1 AVal.any)) && r) true)) = false) => ⟨_, _, _, sePr_2 nb nb2 rs q (c0) (h.2.2.2.1) (h.2.2.1) (h.2.1) (h.1), (h.2.2.2.2.2 c0)⟩)


theorem sePx_1 (nb nb2 : Bool) (rs : List (List AVal)) (q : Int)
    (h1 : decide (q < (↑(List.length rs) : Int)) = false) :
    TripN Try.prog 0 (loopNo Try.f62 0) (rgse nb nb2 rs q) ([]) (AExit.exit 0) (mkR 26 [(0, AVal.fsl nb 2 rs none), (1, AVal.fsl nb2 2 rs none), (5, AVal.int IntKind.i64 q)]) ([]) :=
  evalT (st := St.mk (rgse nb nb2 rs q) ([]) ([Dec.br false]) []) (st' := St.mk (mkR 26 [(0, AVal.fsl nb 2 rs none), (1, AVal.fsl nb2 2 rs none), (5, AVal.int IntKind.i64 q), (11, AVal.int IntKind.i64 q), (12, AVal.fsl nb 2 rs none), (13, AVal.int IntKind.i64 (↑(List.length rs) : Int)), (14, AVal.tt false)]) ([]) ([]) ((decide (q < (↑(List.length rs) : Int)) = false) :: [])) followed (by kernel_rfl) (allP_of ⟨h1, trivial⟩) (keepM 26 [0, 1, 5]) ([]) (by kernel_rfl) (by kernel_rfl) (by kernel_rfl)

def sePx_T (nb nb2 : Bool) (rs : List (List AVal)) (q : Int) (Q : AExit → Regs → AState → Prop) : Prop := (decide (q < (↑(List.length rs) : Int)) = false) ∧ Q (AExit.exit 0) (mkR 26 [(0, AVal.fsl nb 2 rs none), (1, AVal.fsl nb2 2 rs none), (5, AVal.int IntKind.i64 q)]) ([])
theorem sePx_wp (nb nb2 : Bool) (rs : List (List AVal)) (q : Int) {Q : AExit → Regs → AState → Prop} (h : sePx_T nb nb2 rs q Q) : ∃ e rg' σ', TripN Try.prog 0 (loopNo Try.f62 0) (rgse nb nb2 rs q) ([]) e rg' σ' ∧ Q e rg' σ' :=
  ⟨_, _, _, sePx_1 nb nb2 rs q (h.1), h.2⟩


theorem seP_1 (nb nb2 : Bool) (rs : List (List AVal))
    (h1 : ((↑(List.length rs) : Int) != (↑(List.length rs) : Int)) = true) :
    FOk Try.prog 62 ([AVal.fsl nb 2 rs none, AVal.fsl nb2 2 rs none]) ([]) (AVal.bool false) ([]) :=
  (evalF_ok followed Try.func62 (by kernel_rfl) (show evalF Try.prog Try.f62 ([AVal.fsl nb 2 rs none, AVal.fsl nb2 2 rs none]) ([]) ([Dec.br true]) = .ok (FRes.mk (AVal.bool false) ([]) ((((↑(List.length rs) : Int) != (↑(List.length rs) : Int)) = true) :: [])) by kernel_rfl) (allP_of ⟨h1, trivial⟩)).move ([]) (by kernel_rfl) (by kernel_rfl) (by kernel_rfl)

theorem seP_2 (nb nb2 : Bool) (rs : List (List AVal))
    (h1 : TripN Try.prog 0 (Code.loop (loopNo Try.f62 0)) (mkR 26 [(0, AVal.fsl nb 2 rs none), (1, AVal.fsl nb2 2 rs none), (5, AVal.int IntKind.i64 0)]) [] (AExit.exit 0) (mkR 26 [(0, AVal.fsl nb 2 rs none), (1, AVal.fsl nb2 2 rs none), (5, AVal.int IntKind.i64 (↑(List.length rs) : Int))]) [])
    (h2 : ((↑(List.length rs) : Int) != (↑(List.length rs) : Int)) = false) :
    FOk Try.prog 62 ([AVal.fsl nb 2 rs none, AVal.fsl nb2 2 rs none]) ([]) (AVal.bool true) ([]) :=
  (evalF_ok followed Try.func62 (by kernel_rfl) (show evalF Try.prog Try.f62 ([AVal.fsl nb 2 rs none, AVal.fsl nb2 2 rs none]) ([]) ([Dec.br false, Dec.compact (keepM 26 [0, 1, 5]) [], Dec.loop (AExit.exit 0) (rgse nb nb2 rs (↑(List.length rs) : Int)) []]) = .ok (FRes.mk (AVal.bool true) ([]) ((Owed.loop (owed Try.prog 0) (loopNo Try.f62 0) (mkR 26 [(0, AVal.fsl nb 2 rs none), (1, AVal.fsl nb2 2 rs none), (5, AVal.int IntKind.i64 0)]) [] (AExit.exit 0) (mkR 26 [(0, AVal.fsl nb 2 rs none), (1, AVal.fsl nb2 2 rs none), (5, AVal.int IntKind.i64 (↑(List.length rs) : Int))]) []) :: ((((↑(List.length rs) : Int) != (↑(List.length rs) : Int)) = false) :: []))) by kernel_rfl) (allP_of ⟨h1, ⟨h2, trivial⟩⟩)).move ([]) (by kernel_rfl) (by kernel_rfl) (by kernel_rfl)

def seP_T (nb nb2 : Bool) (rs : List (List AVal)) (Q : AVal → AState → Prop) : Prop := ((((↑(List.length rs) : Int) != (↑(List.length rs) : Int)) = true) → Q (AVal.bool false) ([])) ∧ ((((↑(List.length rs) : Int) != (↑(List.length rs) : Int)) = false) → (TripN Try.prog 0 (Code.loop (loopNo Try.f62 0)) (mkR 26 [(0, AVal.fsl nb 2 rs none), (1, AVal.fsl nb2 2 rs none), (5, AVal.int IntKind.i64 0)]) [] (AExit.exit 0) (mkR 26 [(0, AVal.fsl nb 2 rs none), (1, AVal.fsl nb2 2 rs none), (5, AVal.int IntKind.i64 (↑(List.length rs) : Int))]) []) ∧ Q (AVal.bool true) ([]))
theorem seP_wp (nb nb2 : Bool) (rs : List (List AVal)) {Q : AVal → AState → Prop} (h : seP_T nb nb2 rs Q) : ∃ r σ', FOk Try.prog 62 ([AVal.fsl nb 2 rs none, AVal.fsl nb2 2 rs none]) ([]) r σ' ∧ Q r σ' :=
  brE (fun (c0 : ((↑(List.length rs) : Int) != (↑(List.length rs) : Int)) = true) => ⟨_, _, seP_1 nb nb2 rs (c0), (h.1 c0)⟩) (fun (c0 : ((↑(List.length rs) : Int) != (↑(List.length rs) : Int)) = false) => ⟨_, _, seP_2 nb nb2 rs ((h.2 c0).1) (c0), (h.2 c0).2⟩)


end Go.L12
end

section
set_option linter.unusedVariables false
set_option linter.unusedSimpArgs false
set_option maxRecDepth 100000
namespace Go.L12
open Go Go.Abs Go.Proofs
def tyK (t : Nat) (rs : List (List AVal)) : Prop := ∀ q, q < rs.length → (∃ d, List.getD (List.getD rs q []) 1 .any = .str d) ∧ if t = 111 then ∃ n, List.getD (List.getD rs q []) 0 .any = .int .i64 n else ∃ d, List.getD (List.getD rs q []) 0 .any = .str d
theorem sameP_loop (nb nb2 : Bool) (rs : List (List AVal)) (hr : tyK 112 rs) (hz : rs.length < 4611686018427387904) : ∀ (d q : Nat), q + d = rs.length →
    LoopRun Try.prog 0 (loopNo Try.f62 0) (rgse nb nb2 rs (q : Nat)) [] (.exit 0) (rgse nb nb2 rs (rs.length : Nat)) []
  | 0, q, hq => by
    obtain rfl : q = rs.length := by omega
    exact .done (TripN.wp (sePx_wp nb nb2 rs (rs.length : Nat) ⟨decide_eq_false (by omega), rfl, rfl, rfl⟩)) (by simp)
  | d + 1, q, hq => by
    have w1 : IntKind.wrap .i64 ((q : Int) + 1) = ((q + 1 : Nat) : Int) := by rw [wrapS (by omega) (by omega)]; omega
    obtain ⟨⟨d0, e1⟩, h0⟩ := hr q (by omega)
    obtain ⟨n0, e0⟩ : ∃ n, List.getD (List.getD rs q []) 0 .any = .str n := h0
    refine .more ?_ (sameP_loop nb nb2 rs hr hz d (q + 1) (by omega))
    refine TripN.wp (sePr_wp nb nb2 rs (q : Nat) ?_)
    unfold sePr_T
    rw [w1, Int.toNat_natCast, e0, e1]
    exact ⟨decide_eq_true (by omega), decide_eq_true (by omega), rfl, decide_eq_true (by omega), fun c => absurd c (by simp), fun _ => ⟨rfl, rfl, rfl⟩⟩
theorem sameP_ok (nb nb2 : Bool) (rs : List (List AVal)) (hr : tyK 112 rs) (hz : rs.length < 4611686018427387904) : FOk Try.prog 62 [.fsl nb 2 rs none, .fsl nb2 2 rs none] [] (.bool true) [] := by
  refine FOk.wp (seP_wp nb nb2 rs ?_)
  unfold seP_T
  exact ⟨fun c => absurd c (by simp), fun _ => ⟨(sameP_loop nb nb2 rs hr hz rs.length 0 (by omega)).trip, rfl, rfl⟩⟩
end Go.L12
end

section
set_option linter.unusedVariables false
set_option maxRecDepth 100000
namespace Go.L12
open Go Go.Abs Go.Proofs
theorem smN_1 (b0 b1 : Int) (nb nb2 : Bool) (rs : List (List AVal))
    (h1 : tyK 112 rs)
    (h2 : List.length rs < 4611686018427387904)
    (h3 : (b1 == b1) = true)
    (h4 : (b0 == b0) = true) :
    FOk Try.prog 51 ([AVal.agg (rA1 b0 b1 (AVal.fsl nb 2 rs none)), AVal.agg (rA1 b0 b1 (AVal.fsl nb2 2 rs none))]) ([]) (AVal.bool true) ([]) :=
  (evalF_ok followed Try.func51 (by kernel_rfl) (show evalF Try.prog Try.f51 ([AVal.agg (rA1 b0 b1 (AVal.fsl nb 2 rs none)), AVal.agg (rA1 b0 b1 (AVal.fsl nb2 2 rs none))]) ([]) ([Dec.br true, Dec.br true, Dec.use [] [AVal.fsl nb 2 rs none, AVal.fsl nb2 2 rs none] [] (AVal.bool true) []]) = .ok (FRes.mk (AVal.bool true) ([AObj.rows false 3 [[AVal.int IntKind.i64 b0, AVal.int IntKind.i64 b1, AVal.fsl nb 2 rs none]], AObj.rows false 3 [[AVal.int IntKind.i64 b0, AVal.int IntKind.i64 b1, AVal.fsl nb2 2 rs none]]]) ((Owed.use (owed Try.prog 0) 62 [] [AVal.fsl nb 2 rs none, AVal.fsl nb2 2 rs none] [AObj.rows false 3 [[AVal.int IntKind.i64 b0, AVal.int IntKind.i64 b1, AVal.fsl nb 2 rs none]], AObj.rows false 3 [[AVal.int IntKind.i64 b0, AVal.int IntKind.i64 b1, AVal.fsl nb2 2 rs none]]] [AVal.fsl nb 2 rs none, AVal.fsl nb2 2 rs none] [] (AVal.bool true) []) :: (tr 4 ++ (((b1 == b1) = true) :: (tr 4 ++ (((b0 == b0) = true) :: (tr 4 ++ []))))))) by kernel_rfl) (allP_of ⟨⟨(@Go.L12.sameP_ok (nb) (nb2) (rs) h1 h2), rfl, rfl, rfl⟩, (trC 4 ⟨h3, (trC 4 ⟨h4, (trC 4 trivial)⟩)⟩)⟩)).move ([]) (by kernel_rfl) (by kernel_rfl) (by kernel_rfl)

theorem smN_2 (b0 b1 : Int) (nb nb2 : Bool) (rs : List (List AVal))
    (h1 : (b1 == b1) = false)
    (h2 : (b0 == b0) = true) :
    FOk Try.prog 51 ([AVal.agg (rA1 b0 b1 (AVal.fsl nb 2 rs none)), AVal.agg (rA1 b0 b1 (AVal.fsl nb2 2 rs none))]) ([]) (AVal.bool false) ([]) :=
  (evalF_ok followed Try.func51 (by kernel_rfl) (show evalF Try.prog Try.f51 ([AVal.agg (rA1 b0 b1 (AVal.fsl nb 2 rs none)), AVal.agg (rA1 b0 b1 (AVal.fsl nb2 2 rs none))]) ([]) ([Dec.br true, Dec.br false]) = .ok (FRes.mk (AVal.bool false) ([AObj.rows false 3 [[AVal.int IntKind.i64 b0, AVal.int IntKind.i64 b1, AVal.fsl nb 2 rs none]], AObj.rows false 3 [[AVal.int IntKind.i64 b0, AVal.int IntKind.i64 b1, AVal.fsl nb2 2 rs none]]]) (((b1 == b1) = false) :: (tr 4 ++ (((b0 == b0) = true) :: (tr 4 ++ []))))) by kernel_rfl) (allP_of ⟨h1, (trC 4 ⟨h2, (trC 4 trivial)⟩)⟩)).move ([]) (by kernel_rfl) (by kernel_rfl) (by kernel_rfl)

theorem smN_3 (b0 b1 : Int) (nb nb2 : Bool) (rs : List (List AVal))
    (h1 : (b0 == b0) = false) :
    FOk Try.prog 51 ([AVal.agg (rA1 b0 b1 (AVal.fsl nb 2 rs none)), AVal.agg (rA1 b0 b1 (AVal.fsl nb2 2 rs none))]) ([]) (AVal.bool false) ([]) :=
  (evalF_ok followed Try.func51 (by kernel_rfl) (show evalF Try.prog Try.f51 ([AVal.agg (rA1 b0 b1 (AVal.fsl nb 2 rs none)), AVal.agg (rA1 b0 b1 (AVal.fsl nb2 2 rs none))]) ([]) ([Dec.br false]) = .ok (FRes.mk (AVal.bool false) ([AObj.rows false 3 [[AVal.int IntKind.i64 b0, AVal.int IntKind.i64 b1, AVal.fsl nb 2 rs none]], AObj.rows false 3 [[AVal.int IntKind.i64 b0, AVal.int IntKind.i64 b1, AVal.fsl nb2 2 rs none]]]) (((b0 == b0) = false) :: (tr 4 ++ []))) by kernel_rfl) (allP_of ⟨h1, (trC 4 trivial)⟩)).move ([]) (by kernel_rfl) (by kernel_rfl) (by kernel_rfl)

def smN_T (b0 b1 : Int) (nb nb2 : Bool) (rs : List (List AVal)) (Q : AVal → AState → Prop) : Prop := (((b0 == b0) = true) → (((b1 == b1) = true) → (tyK 112 rs) ∧ (List.length rs < 4611686018427387904) ∧ Q (AVal.bool true) ([])) ∧ (((b1 == b1) = false) → Q (AVal.bool false) ([]))) ∧ (((b0 == b0) = false) → Q (AVal.bool false) ([]))
theorem smN_wp (b0 b1 : Int) (nb nb2 : Bool) (rs : List (List AVal)) {Q : AVal → AState → Prop} (h : smN_T b0 b1 nb nb2 rs Q) : ∃ r σ', FOk Try.prog 51 ([AVal.agg (rA1 b0 b1 (AVal.fsl nb 2 rs none)), AVal.agg (rA1 b0 b1 (AVal.fsl nb2 2 rs none))]) ([]) r σ' ∧ Q r σ' :=
  brE (fun (c0 : (b0 == b0) = true) => brE (fun (c1 : (b1 == b1) = true) => ⟨_, _, smN_1 b0 b1 nb nb2 rs (((h.1 c0).1 c1).1) (((h.1 c0).1 c1).2.1) (c1) (c0), ((h.1 c0).1 c1).2.2⟩) (fun (c1 : (b1 == b1) = false) => ⟨_, _, smN_2 b0 b1 nb nb2 rs (c1) (c0), ((h.1 c0).2 c1)⟩)) (fun (c0 : (b0 == b0) = false) => ⟨_, _, smN_3 b0 b1 nb nb2 rs (c0), (h.2 c0)⟩)


theorem smA_1 (b0 b1 : Int) (nb nb2 : Bool) (rs : List (List AVal)) (r : Bool)
    (h1 : FOk Try.prog 51 [AVal.agg [AVal.int IntKind.i64 b0, AVal.int IntKind.i64 b1, AVal.fsl nb 2 rs none], AVal.agg [AVal.int IntKind.i64 b0, AVal.int IntKind.i64 b1, AVal.fsl nb2 2 rs none]] [] (AVal.bool r) []) :
    FOk Try.prog 28 ([AVal.agg (rA1 b0 b1 (AVal.fsl nb 2 rs none)), AVal.agg (rA1 b0 b1 (AVal.fsl nb2 2 rs none))]) ([]) (AVal.bool r) ([]) :=
  (evalF_ok followed Try.func28 (by kernel_rfl) (show evalF Try.prog Try.f28 ([AVal.agg (rA1 b0 b1 (AVal.fsl nb 2 rs none)), AVal.agg (rA1 b0 b1 (AVal.fsl nb2 2 rs none))]) ([]) ([Dec.use [] [AVal.agg [AVal.int IntKind.i64 b0, AVal.int IntKind.i64 b1, AVal.fsl nb 2 rs none], AVal.agg [AVal.int IntKind.i64 b0, AVal.int IntKind.i64 b1, AVal.fsl nb2 2 rs none]] [] (AVal.bool r) []]) = .ok (FRes.mk (AVal.bool r) ([AObj.rows false 3 [[AVal.int IntKind.i64 b0, AVal.int IntKind.i64 b1, AVal.fsl nb 2 rs none]], AObj.rows false 3 [[AVal.int IntKind.i64 b0, AVal.int IntKind.i64 b1, AVal.fsl nb2 2 rs none]]]) ((Owed.use (owed Try.prog 0) 51 [] [AVal.agg [AVal.int IntKind.i64 b0, AVal.int IntKind.i64 b1, AVal.fsl nb 2 rs none], AVal.agg [AVal.int IntKind.i64 b0, AVal.int IntKind.i64 b1, AVal.fsl nb2 2 rs none]] [AObj.rows false 3 [[AVal.int IntKind.i64 b0, AVal.int IntKind.i64 b1, AVal.fsl nb 2 rs none]], AObj.rows false 3 [[AVal.int IntKind.i64 b0, AVal.int IntKind.i64 b1, AVal.fsl nb2 2 rs none]]] [AVal.agg [AVal.int IntKind.i64 b0, AVal.int IntKind.i64 b1, AVal.fsl nb 2 rs none], AVal.agg [AVal.int IntKind.i64 b0, AVal.int IntKind.i64 b1, AVal.fsl nb2 2 rs none]] [] (AVal.bool r) []) :: (tr 4 ++ []))) by kernel_rfl) (allP_of ⟨⟨h1, rfl, rfl, rfl⟩, (trC 4 trivial)⟩)).move ([]) (by kernel_rfl) (by kernel_rfl) (by kernel_rfl)

def smA_T (b0 b1 : Int) (nb nb2 : Bool) (rs : List (List AVal)) (r : Bool) (Q : AVal → AState → Prop) : Prop := (FOk Try.prog 51 [AVal.agg [AVal.int IntKind.i64 b0, AVal.int IntKind.i64 b1, AVal.fsl nb 2 rs none], AVal.agg [AVal.int IntKind.i64 b0, AVal.int IntKind.i64 b1, AVal.fsl nb2 2 rs none]] [] (AVal.bool r) []) ∧ Q (AVal.bool r) ([])
theorem smA_wp (b0 b1 : Int) (nb nb2 : Bool) (rs : List (List AVal)) (r : Bool) {Q : AVal → AState → Prop} (h : smA_T b0 b1 nb nb2 rs r Q) : ∃ r σ', FOk Try.prog 28 ([AVal.agg (rA1 b0 b1 (AVal.fsl nb 2 rs none)), AVal.agg (rA1 b0 b1 (AVal.fsl nb2 2 rs none))]) ([]) r σ' ∧ Q r σ' :=
  ⟨_, _, smA_1 b0 b1 nb nb2 rs r (h.1), h.2⟩


end Go.L12
end

section
set_option linter.unusedVariables false
set_option linter.unusedSimpArgs false
set_option maxRecDepth 100000
namespace Go.L12
open Go Go.Abs Go.Proofs
theorem sameRep_ok (b0 b1 : Int) (nb nb2 : Bool) (rs : List (List AVal)) (hr : tyK 112 rs) (hz : rs.length < 4611686018427387904) :
    FOk Try.prog 28 [.agg (rA1 b0 b1 (.fsl nb 2 rs none)), .agg (rA1 b0 b1 (.fsl nb2 2 rs none))] [] (.bool true) [] := by
  have h : FOk Try.prog 51 [.agg (rA1 b0 b1 (.fsl nb 2 rs none)), .agg (rA1 b0 b1 (.fsl nb2 2 rs none))] [] (.bool true) [] := by
    refine FOk.wp (smN_wp b0 b1 nb nb2 rs ?_)
    unfold smN_T
    simp [hr, hz]
  refine FOk.wp (smA_wp b0 b1 nb nb2 rs true ?_)
  unfold smA_T
  exact ⟨h, rfl, rfl⟩
end Go.L12
end

import Derived.Test.YtkecmndppllijaaDoorL01TF
set_option linter.unusedVariables false
set_option maxRecDepth 100000
namespace Go.L01
open Go Go.Abs Go.Proofs
theorem one_okI (s : ByteArray) (a : Int) (hs : s.size ≤ 140737488355328) (h0 : 0 ≤ a) (ha : a < s.size) : FOk Tryd.prog 22 [.str s, .int .i64 a] [] (.int .i64 (oneL ((lB s).drop a.toNat) : Int)) [] := by
  have := one_ok s a.toNat hs (by omega)
  rw [Int.toNat_of_nonneg h0] at this
  exact this
def rgRv (s : ByteArray) (i : Int) : Regs := mkR 17 [(0, .str s), (3, .int .i64 i)]
theorem rvl_1 (s : ByteArray) (i : Int)
    (h1 : ((↑(oneL (List.drop (Int.toNat i) (lB s))) : Int) == 0) = true)
    (h2 : ByteArray.size s ≤ 140737488355328)
    (h3 : 0 ≤ i)
    (h4 : i < (↑(ByteArray.size s) : Int))
    (h5 : decide (i < (↑(ByteArray.size s) : Int)) = true) :
    TripN Tryd.prog 0 (loopNo Tryd.f17 0) (rgRv s i) ([]) (AExit.ret) (mkR 17 [(2, AVal.tt false)]) ([]) :=
  evalT (st := St.mk (rgRv s i) ([]) ([Dec.br true, Dec.use [] [AVal.str s, AVal.int IntKind.i64 i] [] (AVal.int IntKind.i64 (↑(oneL (List.drop (Int.toNat i) (lB s))) : Int)) [], Dec.br true]) []) (st' := St.mk (mkR 17 [(0, AVal.str s), (2, AVal.tt false), (3, AVal.int IntKind.i64 i), (4, AVal.int IntKind.i64 (↑(oneL (List.drop (Int.toNat i) (lB s))) : Int)), (5, AVal.int IntKind.i64 i), (6, AVal.str s), (7, AVal.int IntKind.i64 (↑(ByteArray.size s) : Int)), (8, AVal.tt true), (9, AVal.str s), (10, AVal.int IntKind.i64 i), (11, AVal.int IntKind.i64 (↑(oneL (List.drop (Int.toNat i) (lB s))) : Int)), (12, AVal.int IntKind.i64 (↑(oneL (List.drop (Int.toNat i) (lB s))) : Int)), (13, AVal.tt true)]) ([]) ([]) ((((↑(oneL (List.drop (Int.toNat i) (lB s))) : Int) == 0) = true) :: ((Owed.use (owed Tryd.prog 0) 22 [] [AVal.str s, AVal.int IntKind.i64 i] [] [AVal.str s, AVal.int IntKind.i64 i] [] (AVal.int IntKind.i64 (↑(oneL (List.drop (Int.toNat i) (lB s))) : Int)) []) :: ((decide (i < (↑(ByteArray.size s) : Int)) = true) :: [])))) followed (by kernel_rfl) (allP_of ⟨h1, ⟨⟨(@Go.L01.one_okI (s) (i) h2 h3 h4), rfl, rfl, rfl⟩, ⟨h5, trivial⟩⟩⟩) (keepM 17 [2]) ([]) (by kernel_rfl) (by kernel_rfl) (by kernel_rfl)

theorem rvl_2 (s : ByteArray) (i : Int)
    (h1 : ((↑(oneL (List.drop (Int.toNat i) (lB s))) : Int) == 0) = false)
    (h2 : ByteArray.size s ≤ 140737488355328)
    (h3 : 0 ≤ i)
    (h4 : i < (↑(ByteArray.size s) : Int))
    (h5 : decide (i < (↑(ByteArray.size s) : Int)) = true) :
    TripN Tryd.prog 0 (loopNo Tryd.f17 0) (rgRv s i) ([]) (AExit.normal) (mkR 17 [(0, AVal.str s), (3, AVal.int IntKind.i64 (IntKind.wrap IntKind.i64 (i + (↑(oneL (List.drop (Int.toNat i) (lB s))) : Int))))]) ([]) :=
  evalT (st := St.mk (rgRv s i) ([]) ([Dec.br true, Dec.use [] [AVal.str s, AVal.int IntKind.i64 i] [] (AVal.int IntKind.i64 (↑(oneL (List.drop (Int.toNat i) (lB s))) : Int)) [], Dec.br false]) []) (st' := St.mk (mkR 17 [(0, AVal.str s), (3, AVal.int IntKind.i64 (IntKind.wrap IntKind.i64 (i + (↑(oneL (List.drop (Int.toNat i) (lB s))) : Int)))), (4, AVal.int IntKind.i64 (↑(oneL (List.drop (Int.toNat i) (lB s))) : Int)), (5, AVal.int IntKind.i64 i), (6, AVal.str s), (7, AVal.int IntKind.i64 (↑(ByteArray.size s) : Int)), (8, AVal.tt true), (9, AVal.str s), (10, AVal.int IntKind.i64 i), (11, AVal.int IntKind.i64 (↑(oneL (List.drop (Int.toNat i) (lB s))) : Int)), (12, AVal.int IntKind.i64 (↑(oneL (List.drop (Int.toNat i) (lB s))) : Int)), (13, AVal.tt false), (14, AVal.int IntKind.i64 i), (15, AVal.int IntKind.i64 (↑(oneL (List.drop (Int.toNat i) (lB s))) : Int)), (16, AVal.int IntKind.i64 (IntKind.wrap IntKind.i64 (i + (↑(oneL (List.drop (Int.toNat i) (lB s))) : Int))))]) ([]) ([]) ((((↑(oneL (List.drop (Int.toNat i) (lB s))) : Int) == 0) = false) :: ((Owed.use (owed Tryd.prog 0) 22 [] [AVal.str s, AVal.int IntKind.i64 i] [] [AVal.str s, AVal.int IntKind.i64 i] [] (AVal.int IntKind.i64 (↑(oneL (List.drop (Int.toNat i) (lB s))) : Int)) []) :: ((decide (i < (↑(ByteArray.size s) : Int)) = true) :: [])))) followed (by kernel_rfl) (allP_of ⟨h1, ⟨⟨(@Go.L01.one_okI (s) (i) h2 h3 h4), rfl, rfl, rfl⟩, ⟨h5, trivial⟩⟩⟩) (keepM 17 [0, 3]) ([]) (by kernel_rfl) (by kernel_rfl) (by kernel_rfl)

theorem rvl_3 (s : ByteArray) (i : Int)
    (h1 : decide (i < (↑(ByteArray.size s) : Int)) = false) :
    TripN Tryd.prog 0 (loopNo Tryd.f17 0) (rgRv s i) ([]) (AExit.exit 0) (mkR 17 [(0, AVal.str s), (3, AVal.int IntKind.i64 i)]) ([]) :=
  evalT (st := St.mk (rgRv s i) ([]) ([Dec.br false]) []) (st' := St.mk (mkR 17 [(0, AVal.str s), (3, AVal.int IntKind.i64 i), (5, AVal.int IntKind.i64 i), (6, AVal.str s), (7, AVal.int IntKind.i64 (↑(ByteArray.size s) : Int)), (8, AVal.tt false)]) ([]) ([]) ((decide (i < (↑(ByteArray.size s) : Int)) = false) :: [])) followed (by kernel_rfl) (allP_of ⟨h1, trivial⟩) (keepM 17 [0, 3]) ([]) (by kernel_rfl) (by kernel_rfl) (by kernel_rfl)

def rvl_T (s : ByteArray) (i : Int) (Q : AExit → Regs → AState → Prop) : Prop := ((decide (i < (↑(ByteArray.size s) : Int)) = true) → (ByteArray.size s ≤ 140737488355328) ∧ (0 ≤ i) ∧ (i < (↑(ByteArray.size s) : Int)) ∧ ((((↑(oneL (List.drop (Int.toNat i) (lB s))) : Int) == 0) = true) → Q (AExit.ret) (mkR 17 [(2, AVal.tt false)]) ([])) ∧ ((((↑(oneL (List.drop (Int.toNat i) (lB s))) : Int) == 0) = false) → Q (AExit.normal) (mkR 17 [(0, AVal.str s), (3, AVal.int IntKind.i64 (IntKind.wrap IntKind.i64 (i + (↑(oneL (List.drop (Int.toNat i) (lB s))) : Int))))]) ([]))) ∧ ((decide (i < (↑(ByteArray.size s) : Int)) = false) → Q (AExit.exit 0) (mkR 17 [(0, AVal.str s), (3, AVal.int IntKind.i64 i)]) ([]))
theorem rvl_wp (s : ByteArray) (i : Int) {Q : AExit → Regs → AState → Prop} (h : rvl_T s i Q) : ∃ e rg' σ', TripN Tryd.prog 0 (loopNo Tryd.f17 0) (rgRv s i) ([]) e rg' σ' ∧ Q e rg' σ' :=
  brE (fun (c0 : decide (i < (↑(ByteArray.size s) : Int)) = true) => brE (fun (c1 : ((↑(oneL (List.drop (Int.toNat i) (lB s))) : Int) == 0) = true) => ⟨_, _, _, rvl_1 s i (c1) ((h.1 c0).1) ((h.1 c0).2.1) ((h.1 c0).2.2.1) (c0), ((h.1 c0).2.2.2.1 c1)⟩) (fun (c1 : ((↑(oneL (List.drop (Int.toNat i) (lB s))) : Int) == 0) = false) => ⟨_, _, _, rvl_2 s i (c1) ((h.1 c0).1) ((h.1 c0).2.1) ((h.1 c0).2.2.1) (c0), ((h.1 c0).2.2.2.2 c1)⟩)) (fun (c0 : decide (i < (↑(ByteArray.size s) : Int)) = false) => ⟨_, _, _, rvl_3 s i (c0), (h.2 c0)⟩)


theorem rval_1 (s : ByteArray) (i : Int)
    (h1 : TripN Tryd.prog 0 (Code.loop (loopNo Tryd.f17 0)) (mkR 17 [(0, AVal.str s), (3, AVal.int IntKind.i64 0)]) [] (AExit.exit 0) (mkR 17 [(0, AVal.str s), (3, AVal.int IntKind.i64 i)]) []) :
    FOk Tryd.prog 17 ([AVal.str s]) ([]) (AVal.bool true) ([]) :=
  (evalF_ok followed Tryd.func17 (by kernel_rfl) (show evalF Tryd.prog Tryd.f17 ([AVal.str s]) ([]) ([Dec.compact (keepM 17 [0, 3]) [], Dec.loop (AExit.exit 0) (rgRv s i) []]) = .ok (FRes.mk (AVal.bool true) ([]) ((Owed.loop (owed Tryd.prog 0) (loopNo Tryd.f17 0) (mkR 17 [(0, AVal.str s), (3, AVal.int IntKind.i64 0)]) [] (AExit.exit 0) (mkR 17 [(0, AVal.str s), (3, AVal.int IntKind.i64 i)]) []) :: [])) by kernel_rfl) (allP_of ⟨h1, trivial⟩)).move ([]) (by kernel_rfl) (by kernel_rfl) (by kernel_rfl)

def rval_T (s : ByteArray) (i : Int) (Q : AVal → AState → Prop) : Prop := (TripN Tryd.prog 0 (Code.loop (loopNo Tryd.f17 0)) (mkR 17 [(0, AVal.str s), (3, AVal.int IntKind.i64 0)]) [] (AExit.exit 0) (mkR 17 [(0, AVal.str s), (3, AVal.int IntKind.i64 i)]) []) ∧ Q (AVal.bool true) ([])
theorem rval_wp (s : ByteArray) (i : Int) {Q : AVal → AState → Prop} (h : rval_T s i Q) : ∃ r σ', FOk Tryd.prog 17 ([AVal.str s]) ([]) r σ' ∧ Q r σ' :=
  ⟨_, _, rval_1 s i (h.1), h.2⟩


theorem rvalR_1 (s : ByteArray)
    (h1 : TripN Tryd.prog 0 (Code.loop (loopNo Tryd.f17 0)) (mkR 17 [(0, AVal.str s), (3, AVal.int IntKind.i64 0)]) [] AExit.ret (mkR 17 [(2, AVal.tt false)]) []) :
    FOk Tryd.prog 17 ([AVal.str s]) ([]) (AVal.bool false) ([]) :=
  (evalF_ok followed Tryd.func17 (by kernel_rfl) (show evalF Tryd.prog Tryd.f17 ([AVal.str s]) ([]) ([Dec.compact (keepM 17 [0, 3]) [], Dec.loop AExit.ret (mkR 17 [(2, AVal.tt false)]) []]) = .ok (FRes.mk (AVal.bool false) ([]) ((Owed.loop (owed Tryd.prog 0) (loopNo Tryd.f17 0) (mkR 17 [(0, AVal.str s), (3, AVal.int IntKind.i64 0)]) [] AExit.ret (mkR 17 [(2, AVal.tt false)]) []) :: [])) by kernel_rfl) (allP_of ⟨h1, trivial⟩)).move ([]) (by kernel_rfl) (by kernel_rfl) (by kernel_rfl)

def rvalR_T (s : ByteArray) (Q : AVal → AState → Prop) : Prop := (TripN Tryd.prog 0 (Code.loop (loopNo Tryd.f17 0)) (mkR 17 [(0, AVal.str s), (3, AVal.int IntKind.i64 0)]) [] AExit.ret (mkR 17 [(2, AVal.tt false)]) []) ∧ Q (AVal.bool false) ([])
theorem rvalR_wp (s : ByteArray) {Q : AVal → AState → Prop} (h : rvalR_T s Q) : ∃ r σ', FOk Tryd.prog 17 ([AVal.str s]) ([]) r σ' ∧ Q r σ' :=
  ⟨_, _, rvalR_1 s (h.1), h.2⟩


end Go.L01

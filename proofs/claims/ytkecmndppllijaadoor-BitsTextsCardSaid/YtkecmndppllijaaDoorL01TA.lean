import Derived.Test.YtkecmndppllijaaDoorL01T
set_option linter.unusedVariables false
set_option maxRecDepth 100000
namespace Go.L01
open Go Go.Abs Go.Proofs
def rgMo (s : ByteArray) (a n i : Int) : Regs := mkR 32 [(0, .str s), (1, .int .i64 a), (2, .int .i64 n), (7, .int .i64 i)]
theorem mo_1 (s : ByteArray) (a : Int) (n : Int) (i : Int)
    (h1 : decide (byteAt s i < 128) = true)
    (h2 : decide (0 ≤ i ∧ i < (↑(ByteArray.size s) : Int)) = true)
    (h3 : decide (i < IntKind.wrap IntKind.i64 (a + n)) = true) :
    TripN Tryd.prog 0 (loopNo Tryd.f24 0) (rgMo s a n i) ([]) (AExit.ret) (mkR 32 [(6, AVal.tt false)]) ([]) :=
  evalT (st := St.mk (rgMo s a n i) ([]) ([Dec.br true, Dec.br true]) []) (st' := St.mk (mkR 32 [(0, AVal.str s), (1, AVal.int IntKind.i64 a), (2, AVal.int IntKind.i64 n), (6, AVal.tt false), (7, AVal.int IntKind.i64 i), (15, AVal.int IntKind.i64 i), (16, AVal.int IntKind.i64 a), (17, AVal.int IntKind.i64 n), (18, AVal.int IntKind.i64 (IntKind.wrap IntKind.i64 (a + n))), (19, AVal.tt true), (22, AVal.str s), (23, AVal.int IntKind.i64 i), (24, AVal.int IntKind.u8 (byteAt s i)), (25, AVal.bool (decide (byteAt s i < 128))), (26, AVal.tt true), (27, AVal.tuple []), (28, AVal.tuple []), (29, AVal.tuple []), (30, AVal.tuple []), (31, AVal.tt true)]) ([]) ([]) ((decide (byteAt s i < 128) = true) :: ((decide (0 ≤ i ∧ i < (↑(ByteArray.size s) : Int)) = true) :: ((decide (i < IntKind.wrap IntKind.i64 (a + n)) = true) :: [])))) followed (by kernel_rfl) (allP_of ⟨h1, ⟨h2, ⟨h3, trivial⟩⟩⟩) (keepM 32 [6]) ([]) (by kernel_rfl) (by kernel_rfl) (by kernel_rfl)

theorem mo_2 (s : ByteArray) (a : Int) (n : Int) (i : Int)
    (h1 : decide (byteAt s i > 191) = true)
    (h2 : decide (0 ≤ i ∧ i < (↑(ByteArray.size s) : Int)) = true)
    (h3 : decide (byteAt s i < 128) = false)
    (h4 : decide (i < IntKind.wrap IntKind.i64 (a + n)) = true) :
    TripN Tryd.prog 0 (loopNo Tryd.f24 0) (rgMo s a n i) ([]) (AExit.ret) (mkR 32 [(6, AVal.tt false)]) ([]) :=
  evalT (st := St.mk (rgMo s a n i) ([]) ([Dec.br true, Dec.br false, Dec.br true]) []) (st' := St.mk (mkR 32 [(0, AVal.str s), (1, AVal.int IntKind.i64 a), (2, AVal.int IntKind.i64 n), (6, AVal.tt false), (7, AVal.int IntKind.i64 i), (15, AVal.int IntKind.i64 i), (16, AVal.int IntKind.i64 a), (17, AVal.int IntKind.i64 n), (18, AVal.int IntKind.i64 (IntKind.wrap IntKind.i64 (a + n))), (19, AVal.tt true), (22, AVal.str s), (23, AVal.int IntKind.i64 i), (24, AVal.int IntKind.u8 (byteAt s i)), (25, AVal.bool (decide (byteAt s i < 128))), (26, AVal.tt false), (27, AVal.str s), (28, AVal.int IntKind.i64 i), (29, AVal.int IntKind.u8 (byteAt s i)), (30, AVal.bool (decide (byteAt s i > 191))), (31, AVal.tt true)]) ([]) ([]) ((decide (byteAt s i > 191) = true) :: ((decide (0 ≤ i ∧ i < (↑(ByteArray.size s) : Int)) = true) :: ((decide (byteAt s i < 128) = false) :: ((decide (0 ≤ i ∧ i < (↑(ByteArray.size s) : Int)) = true) :: ((decide (i < IntKind.wrap IntKind.i64 (a + n)) = true) :: [])))))) followed (by kernel_rfl) (allP_of ⟨h1, ⟨h2, ⟨h3, ⟨h2, ⟨h4, trivial⟩⟩⟩⟩⟩) (keepM 32 [6]) ([]) (by kernel_rfl) (by kernel_rfl) (by kernel_rfl)

theorem mo_3 (s : ByteArray) (a : Int) (n : Int) (i : Int)
    (h1 : decide (byteAt s i > 191) = false)
    (h2 : decide (0 ≤ i ∧ i < (↑(ByteArray.size s) : Int)) = true)
    (h3 : decide (byteAt s i < 128) = false)
    (h4 : decide (i < IntKind.wrap IntKind.i64 (a + n)) = true) :
    TripN Tryd.prog 0 (loopNo Tryd.f24 0) (rgMo s a n i) ([]) (AExit.normal) (mkR 32 [(0, AVal.str s), (1, AVal.int IntKind.i64 a), (2, AVal.int IntKind.i64 n), (7, AVal.int IntKind.i64 (IntKind.wrap IntKind.i64 (i + 1)))]) ([]) :=
  evalT (st := St.mk (rgMo s a n i) ([]) ([Dec.br true, Dec.br false, Dec.br false]) []) (st' := St.mk (mkR 32 [(0, AVal.str s), (1, AVal.int IntKind.i64 a), (2, AVal.int IntKind.i64 n), (7, AVal.int IntKind.i64 (IntKind.wrap IntKind.i64 (i + 1))), (15, AVal.int IntKind.i64 i), (16, AVal.int IntKind.i64 a), (17, AVal.int IntKind.i64 n), (18, AVal.int IntKind.i64 (IntKind.wrap IntKind.i64 (a + n))), (19, AVal.tt true), (20, AVal.int IntKind.i64 i), (21, AVal.int IntKind.i64 (IntKind.wrap IntKind.i64 (i + 1))), (22, AVal.str s), (23, AVal.int IntKind.i64 i), (24, AVal.int IntKind.u8 (byteAt s i)), (25, AVal.bool (decide (byteAt s i < 128))), (26, AVal.tt false), (27, AVal.str s), (28, AVal.int IntKind.i64 i), (29, AVal.int IntKind.u8 (byteAt s i)), (30, AVal.bool (decide (byteAt s i > 191))), (31, AVal.tt false)]) ([]) ([]) ((decide (byteAt s i > 191) = false) :: ((decide (0 ≤ i ∧ i < (↑(ByteArray.size s) : Int)) = true) :: ((decide (byteAt s i < 128) = false) :: ((decide (0 ≤ i ∧ i < (↑(ByteArray.size s) : Int)) = true) :: ((decide (i < IntKind.wrap IntKind.i64 (a + n)) = true) :: [])))))) followed (by kernel_rfl) (allP_of ⟨h1, ⟨h2, ⟨h3, ⟨h2, ⟨h4, trivial⟩⟩⟩⟩⟩) (keepM 32 [0, 1, 2, 7]) ([]) (by kernel_rfl) (by kernel_rfl) (by kernel_rfl)

theorem mo_4 (s : ByteArray) (a : Int) (n : Int) (i : Int)
    (h1 : decide (i < IntKind.wrap IntKind.i64 (a + n)) = false) :
    TripN Tryd.prog 0 (loopNo Tryd.f24 0) (rgMo s a n i) ([]) (AExit.exit 0) (mkR 32 [(0, AVal.str s), (1, AVal.int IntKind.i64 a), (2, AVal.int IntKind.i64 n), (7, AVal.int IntKind.i64 i)]) ([]) :=
  evalT (st := St.mk (rgMo s a n i) ([]) ([Dec.br false]) []) (st' := St.mk (mkR 32 [(0, AVal.str s), (1, AVal.int IntKind.i64 a), (2, AVal.int IntKind.i64 n), (7, AVal.int IntKind.i64 i), (15, AVal.int IntKind.i64 i), (16, AVal.int IntKind.i64 a), (17, AVal.int IntKind.i64 n), (18, AVal.int IntKind.i64 (IntKind.wrap IntKind.i64 (a + n))), (19, AVal.tt false)]) ([]) ([]) ((decide (i < IntKind.wrap IntKind.i64 (a + n)) = false) :: [])) followed (by kernel_rfl) (allP_of ⟨h1, trivial⟩) (keepM 32 [0, 1, 2, 7]) ([]) (by kernel_rfl) (by kernel_rfl) (by kernel_rfl)

def mo_T (s : ByteArray) (a : Int) (n : Int) (i : Int) (Q : AExit → Regs → AState → Prop) : Prop := ((decide (i < IntKind.wrap IntKind.i64 (a + n)) = true) → (decide (0 ≤ i ∧ i < (↑(ByteArray.size s) : Int)) = true) ∧ ((decide (byteAt s i < 128) = true) → Q (AExit.ret) (mkR 32 [(6, AVal.tt false)]) ([])) ∧ ((decide (byteAt s i < 128) = false) → ((decide (byteAt s i > 191) = true) → Q (AExit.ret) (mkR 32 [(6, AVal.tt false)]) ([])) ∧ ((decide (byteAt s i > 191) = false) → Q (AExit.normal) (mkR 32 [(0, AVal.str s), (1, AVal.int IntKind.i64 a), (2, AVal.int IntKind.i64 n), (7, AVal.int IntKind.i64 (IntKind.wrap IntKind.i64 (i + 1)))]) ([])))) ∧ ((decide (i < IntKind.wrap IntKind.i64 (a + n)) = false) → Q (AExit.exit 0) (mkR 32 [(0, AVal.str s), (1, AVal.int IntKind.i64 a), (2, AVal.int IntKind.i64 n), (7, AVal.int IntKind.i64 i)]) ([]))
theorem mo_wp (s : ByteArray) (a : Int) (n : Int) (i : Int) {Q : AExit → Regs → AState → Prop} (h : mo_T s a n i Q) : ∃ e rg' σ', TripN Tryd.prog 0 (loopNo Tryd.f24 0) (rgMo s a n i) ([]) e rg' σ' ∧ Q e rg' σ' :=
  brE (fun (c0 : decide (i < IntKind.wrap IntKind.i64 (a + n)) = true) => brE (fun (c1 : decide (byteAt s i < 128) = true) => ⟨_, _, _, mo_1 s a n i (c1) ((h.1 c0).1) (c0), ((h.1 c0).2.1 c1)⟩) (fun (c1 : decide (byteAt s i < 128) = false) => brE (fun (c2 : decide (byteAt s i > 191) = true) => ⟨_, _, _, mo_2 s a n i (c2) ((h.1 c0).1) (c1) (c0), (((h.1 c0).2.2 c1).1 c2)⟩) (fun (c2 : decide (byteAt s i > 191) = false) => ⟨_, _, _, mo_3 s a n i (c2) ((h.1 c0).1) (c1) (c0), (((h.1 c0).2.2 c1).2 c2)⟩))) (fun (c0 : decide (i < IntKind.wrap IntKind.i64 (a + n)) = false) => ⟨_, _, _, mo_4 s a n i (c0), (h.2 c0)⟩)


theorem more_1 (s : ByteArray) (a : Int) (n : Int)
    (h1 : decide (n > IntKind.wrap IntKind.i64 ((↑(ByteArray.size s) : Int) - a)) = true) :
    FOk Tryd.prog 24 ([AVal.str s, AVal.int IntKind.i64 a, AVal.int IntKind.i64 n]) ([]) (AVal.bool false) ([]) :=
  (evalF_ok followed Tryd.func24 (by kernel_rfl) (show evalF Tryd.prog Tryd.f24 ([AVal.str s, AVal.int IntKind.i64 a, AVal.int IntKind.i64 n]) ([]) ([Dec.br true]) = .ok (FRes.mk (AVal.bool false) ([]) ((decide (n > IntKind.wrap IntKind.i64 ((↑(ByteArray.size s) : Int) - a)) = true) :: [])) by kernel_rfl) (allP_of ⟨h1, trivial⟩)).move ([]) (by kernel_rfl) (by kernel_rfl) (by kernel_rfl)

theorem more_2 (s : ByteArray) (a : Int) (n : Int)
    (h1 : TripN Tryd.prog 0 (Code.loop (loopNo Tryd.f24 0)) (mkR 32 [(0, AVal.str s), (1, AVal.int IntKind.i64 a), (2, AVal.int IntKind.i64 n), (7, AVal.int IntKind.i64 a)]) [] (AExit.exit 0) (mkR 32 [(0, AVal.str s), (1, AVal.int IntKind.i64 a), (2, AVal.int IntKind.i64 n), (7, AVal.int IntKind.i64 (a + n))]) [])
    (h2 : decide (n > IntKind.wrap IntKind.i64 ((↑(ByteArray.size s) : Int) - a)) = false) :
    FOk Tryd.prog 24 ([AVal.str s, AVal.int IntKind.i64 a, AVal.int IntKind.i64 n]) ([]) (AVal.bool true) ([]) :=
  (evalF_ok followed Tryd.func24 (by kernel_rfl) (show evalF Tryd.prog Tryd.f24 ([AVal.str s, AVal.int IntKind.i64 a, AVal.int IntKind.i64 n]) ([]) ([Dec.br false, Dec.compact (keepM 32 [0, 1, 2, 7]) [], Dec.loop (AExit.exit 0) (rgMo s a n (a + n)) []]) = .ok (FRes.mk (AVal.bool true) ([]) ((Owed.loop (owed Tryd.prog 0) (loopNo Tryd.f24 0) (mkR 32 [(0, AVal.str s), (1, AVal.int IntKind.i64 a), (2, AVal.int IntKind.i64 n), (7, AVal.int IntKind.i64 a)]) [] (AExit.exit 0) (mkR 32 [(0, AVal.str s), (1, AVal.int IntKind.i64 a), (2, AVal.int IntKind.i64 n), (7, AVal.int IntKind.i64 (a + n))]) []) :: ((decide (n > IntKind.wrap IntKind.i64 ((↑(ByteArray.size s) : Int) - a)) = false) :: []))) by kernel_rfl) (allP_of ⟨h1, ⟨h2, trivial⟩⟩)).move ([]) (by kernel_rfl) (by kernel_rfl) (by kernel_rfl)

def more_T (s : ByteArray) (a : Int) (n : Int) (Q : AVal → AState → Prop) : Prop := ((decide (n > IntKind.wrap IntKind.i64 ((↑(ByteArray.size s) : Int) - a)) = true) → Q (AVal.bool false) ([])) ∧ ((decide (n > IntKind.wrap IntKind.i64 ((↑(ByteArray.size s) : Int) - a)) = false) → (TripN Tryd.prog 0 (Code.loop (loopNo Tryd.f24 0)) (mkR 32 [(0, AVal.str s), (1, AVal.int IntKind.i64 a), (2, AVal.int IntKind.i64 n), (7, AVal.int IntKind.i64 a)]) [] (AExit.exit 0) (mkR 32 [(0, AVal.str s), (1, AVal.int IntKind.i64 a), (2, AVal.int IntKind.i64 n), (7, AVal.int IntKind.i64 (a + n))]) []) ∧ Q (AVal.bool true) ([]))
theorem more_wp (s : ByteArray) (a : Int) (n : Int) {Q : AVal → AState → Prop} (h : more_T s a n Q) : ∃ r σ', FOk Tryd.prog 24 ([AVal.str s, AVal.int IntKind.i64 a, AVal.int IntKind.i64 n]) ([]) r σ' ∧ Q r σ' :=
  brE (fun (c0 : decide (n > IntKind.wrap IntKind.i64 ((↑(ByteArray.size s) : Int) - a)) = true) => ⟨_, _, more_1 s a n (c0), (h.1 c0)⟩) (fun (c0 : decide (n > IntKind.wrap IntKind.i64 ((↑(ByteArray.size s) : Int) - a)) = false) => ⟨_, _, more_2 s a n ((h.2 c0).1) (c0), (h.2 c0).2⟩)


theorem moreR_1 (s : ByteArray) (a : Int) (n : Int)
    (h1 : decide (n > IntKind.wrap IntKind.i64 ((↑(ByteArray.size s) : Int) - a)) = true) :
    FOk Tryd.prog 24 ([AVal.str s, AVal.int IntKind.i64 a, AVal.int IntKind.i64 n]) ([]) (AVal.bool false) ([]) :=
  (evalF_ok followed Tryd.func24 (by kernel_rfl) (show evalF Tryd.prog Tryd.f24 ([AVal.str s, AVal.int IntKind.i64 a, AVal.int IntKind.i64 n]) ([]) ([Dec.br true]) = .ok (FRes.mk (AVal.bool false) ([]) ((decide (n > IntKind.wrap IntKind.i64 ((↑(ByteArray.size s) : Int) - a)) = true) :: [])) by kernel_rfl) (allP_of ⟨h1, trivial⟩)).move ([]) (by kernel_rfl) (by kernel_rfl) (by kernel_rfl)

theorem moreR_2 (s : ByteArray) (a : Int) (n : Int)
    (h1 : TripN Tryd.prog 0 (Code.loop (loopNo Tryd.f24 0)) (mkR 32 [(0, AVal.str s), (1, AVal.int IntKind.i64 a), (2, AVal.int IntKind.i64 n), (7, AVal.int IntKind.i64 a)]) [] AExit.ret (mkR 32 [(6, AVal.tt false)]) [])
    (h2 : decide (n > IntKind.wrap IntKind.i64 ((↑(ByteArray.size s) : Int) - a)) = false) :
    FOk Tryd.prog 24 ([AVal.str s, AVal.int IntKind.i64 a, AVal.int IntKind.i64 n]) ([]) (AVal.bool false) ([]) :=
  (evalF_ok followed Tryd.func24 (by kernel_rfl) (show evalF Tryd.prog Tryd.f24 ([AVal.str s, AVal.int IntKind.i64 a, AVal.int IntKind.i64 n]) ([]) ([Dec.br false, Dec.compact (keepM 32 [0, 1, 2, 7]) [], Dec.loop AExit.ret (mkR 32 [(6, AVal.tt false)]) []]) = .ok (FRes.mk (AVal.bool false) ([]) ((Owed.loop (owed Tryd.prog 0) (loopNo Tryd.f24 0) (mkR 32 [(0, AVal.str s), (1, AVal.int IntKind.i64 a), (2, AVal.int IntKind.i64 n), (7, AVal.int IntKind.i64 a)]) [] AExit.ret (mkR 32 [(6, AVal.tt false)]) []) :: ((decide (n > IntKind.wrap IntKind.i64 ((↑(ByteArray.size s) : Int) - a)) = false) :: []))) by kernel_rfl) (allP_of ⟨h1, ⟨h2, trivial⟩⟩)).move ([]) (by kernel_rfl) (by kernel_rfl) (by kernel_rfl)

def moreR_T (s : ByteArray) (a : Int) (n : Int) (Q : AVal → AState → Prop) : Prop := ((decide (n > IntKind.wrap IntKind.i64 ((↑(ByteArray.size s) : Int) - a)) = true) → Q (AVal.bool false) ([])) ∧ ((decide (n > IntKind.wrap IntKind.i64 ((↑(ByteArray.size s) : Int) - a)) = false) → (TripN Tryd.prog 0 (Code.loop (loopNo Tryd.f24 0)) (mkR 32 [(0, AVal.str s), (1, AVal.int IntKind.i64 a), (2, AVal.int IntKind.i64 n), (7, AVal.int IntKind.i64 a)]) [] AExit.ret (mkR 32 [(6, AVal.tt false)]) []) ∧ Q (AVal.bool false) ([]))
theorem moreR_wp (s : ByteArray) (a : Int) (n : Int) {Q : AVal → AState → Prop} (h : moreR_T s a n Q) : ∃ r σ', FOk Tryd.prog 24 ([AVal.str s, AVal.int IntKind.i64 a, AVal.int IntKind.i64 n]) ([]) r σ' ∧ Q r σ' :=
  brE (fun (c0 : decide (n > IntKind.wrap IntKind.i64 ((↑(ByteArray.size s) : Int) - a)) = true) => ⟨_, _, moreR_1 s a n (c0), (h.1 c0)⟩) (fun (c0 : decide (n > IntKind.wrap IntKind.i64 ((↑(ByteArray.size s) : Int) - a)) = false) => ⟨_, _, moreR_2 s a n ((h.2 c0).1) (c0), (h.2 c0).2⟩)


end Go.L01

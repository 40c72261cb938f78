import Derived.Test.YtjkmndfipanalaaL12g0
section
set_option linter.unusedVariables false
set_option maxRecDepth 100000
namespace Go.L12
open Go Go.Abs Go.Abs.AVal Go.Abs.AObj Go.Proofs
def rgtC (i : Int) : Regs := mkR 117 [(0, .ptr 0 1 0 0), (15, .slc false 1 1 0 20 none), (16, .int .i64 20), (17, .int .i64 i)]
abbrev hptC (u0 : List AVal) (s : ByteArray) : AState := [.rows true 1 [[.str s]], .rows false 1 (flC 2), .rows true 20 [u0]]
theorem tCI0_1 (u0 : List AVal) (i : Int) (j : Nat) (s : ByteArray)
    (h1 : decide (j + 1 ≤ 20) = true)
    (h2 : tkOk s 1099511627776 = true)
    (h3 : asType Try.prog 20 [List.getD (List.getD (flC 2) (Int.toNat i) []) 0 any] = iface 100 (ptr 2 20 0 j))
    (h4 : decide (Int.toNat i < 20) = true)
    (h5 : decide (0 ≤ i ∧ i < (↑20 : Int)) = true)
    (h6 : decide (i < 20) = true) :
    TripN Try.prog 3 (loopNo Try.f60 0) (rgtC i) (hptC u0 s) (AExit.normal) (mkR 117 [(0, ptr 0 1 0 0), (15, slc false 1 1 0 20 none), (16, iI 20), (17, iI (IntKind.wrap IntKind.i64 (i + 1)))]) ([rows true 1 [[str (tkR s)]], rows false 1 (flC 2), rows true 20 [setCells u0 j [iI (tkV s)]]]) :=
  evalT (st := St.mk (rgtC i) (hptC u0 s) ([Dec.br true, Dec.rwl (iface 100 (ptr 2 20 0 j)), Dec.use [0] [ptr 0 1 0 0, iI 1099511627776] [rows true 1 [[str s]]] (iI (tkV s)) [rows true 1 [[str (tkR s)]]]]) []) (st' := St.mk (mkR 117 [(0, ptr 0 1 0 0), (5, iface 100 (ptr 2 20 0 j)), (6, ptr 2 20 0 j), (15, slc false 1 1 0 20 none), (16, iI 20), (17, iI (IntKind.wrap IntKind.i64 (i + 1))), (18, tt true), (19, ptr 1 1 (Int.toNat i) 0), (20, iface 100 (ptr 2 20 0 j)), (21, iface 100 (ptr 2 20 0 j)), (22, tuple [ptr 2 20 0 j, tt true]), (23, tt true), (24, ptr 2 20 0 j), (25, ptr 2 20 0 j), (26, ptr 0 1 0 0), (27, iI (tkV s)), (28, ptr 2 20 0 j), (116, iI (IntKind.wrap IntKind.i64 (i + 1)))]) ([rows true 1 [[str (tkR s)]], rows false 1 (flC 2), rows true 20 [setCells u0 j [iI (tkV s)]]]) ([]) (tr 1 ++ ((decide (j + 1 ≤ 20) = true) :: ((oU 3 66 [0] [ptr 0 1 0 0, iI 1099511627776] [rows true 1 [[str s]], rows false 1 (flC 2), rows true 20 [u0]] [ptr 0 1 0 0, iI 1099511627776] [rows true 1 [[str s]]] (iI (tkV s)) [rows true 1 [[str (tkR s)]]]) :: ((asType Try.prog 20 [List.getD (List.getD (flC 2) (Int.toNat i) []) 0 any] = iface 100 (ptr 2 20 0 j)) :: ((decide (Int.toNat i < 20) = true) :: (tr 1 ++ ((decide (0 ≤ i ∧ i < (↑20 : Int)) = true) :: ((decide (i < 20) = true) :: []))))))))) followed (by kernel_rfl) (allP_of (trC 1 ⟨h1, ⟨⟨(@Go.L12.taken_ok (s) (1099511627776) h2), rfl, rfl, rfl⟩, ⟨h3, ⟨h4, (trC 1 ⟨h5, ⟨h6, trivial⟩⟩)⟩⟩⟩⟩)) (keepM 117 [0, 15, 16, 17]) ([0, 1, 2]) (by kernel_rfl) (by kernel_rfl) (by kernel_rfl)

theorem tCI0_2 (u0 : List AVal) (i : Int) (j : Nat) (s : ByteArray)
    (h1 : tkOk s 1099511627776 = false)
    (h2 : asType Try.prog 20 [List.getD (List.getD (flC 2) (Int.toNat i) []) 0 any] = iface 100 (ptr 2 20 0 j))
    (h3 : decide (Int.toNat i < 20) = true)
    (h4 : decide (0 ≤ i ∧ i < (↑20 : Int)) = true)
    (h5 : decide (i < 20) = true) :
    TripN Try.prog 3 (loopNo Try.f60 0) (rgtC i) (hptC u0 s) (AExit.pan 117) (mkR 117 [(0, ptr 0 1 0 0), (15, slc false 1 1 0 20 none), (16, iI 20), (17, iI i)]) ([dead, rows false 1 (flC 2), rows true 20 [u0]]) :=
  evalT (st := St.mk (rgtC i) (hptC u0 s) ([Dec.br true, Dec.rwl (iface 100 (ptr 2 20 0 j)), Dec.use [0] [ptr 0 1 0 0, iI 1099511627776] [rows true 1 [[str s]]] (pan 117) [dead]]) []) (st' := St.mk (mkR 117 [(0, ptr 0 1 0 0), (5, iface 100 (ptr 2 20 0 j)), (6, ptr 2 20 0 j), (15, slc false 1 1 0 20 none), (16, iI 20), (17, iI i), (18, tt true), (19, ptr 1 1 (Int.toNat i) 0), (20, iface 100 (ptr 2 20 0 j)), (21, iface 100 (ptr 2 20 0 j)), (22, tuple [ptr 2 20 0 j, tt true]), (23, tt true), (24, ptr 2 20 0 j), (25, ptr 2 20 0 j), (26, ptr 0 1 0 0)]) ([dead, rows false 1 (flC 2), rows true 20 [u0]]) ([]) ((oU 3 66 [0] [ptr 0 1 0 0, iI 1099511627776] [rows true 1 [[str s]], rows false 1 (flC 2), rows true 20 [u0]] [ptr 0 1 0 0, iI 1099511627776] [rows true 1 [[str s]]] (pan 117) [dead]) :: ((asType Try.prog 20 [List.getD (List.getD (flC 2) (Int.toNat i) []) 0 any] = iface 100 (ptr 2 20 0 j)) :: ((decide (Int.toNat i < 20) = true) :: (tr 1 ++ ((decide (0 ≤ i ∧ i < (↑20 : Int)) = true) :: ((decide (i < 20) = true) :: []))))))) followed (by kernel_rfl) (allP_of ⟨⟨(@Go.L12.taken_no (s) (1099511627776) h1), rfl, rfl, rfl⟩, ⟨h2, ⟨h3, (trC 1 ⟨h4, ⟨h5, trivial⟩⟩)⟩⟩⟩) (keepM 117 [0, 15, 16, 17]) ([0, 1, 2]) (by kernel_rfl) (by kernel_rfl) (by kernel_rfl)

def tCI0_T (u0 : List AVal) (i : Int) (j : Nat) (s : ByteArray) (Q : AExit → Regs → AState → Prop) : Prop := (decide (i < 20) = true) ∧ (decide (0 ≤ i ∧ i < (↑20 : Int)) = true) ∧ (decide (Int.toNat i < 20) = true) ∧ (asType Try.prog 20 [List.getD (List.getD (flC 2) (Int.toNat i) []) 0 any] = iface 100 (ptr 2 20 0 j)) ∧ ((((tkOk s 1099511627776 = true)) → (decide (j + 1 ≤ 20) = true) ∧ Q (AExit.normal) (mkR 117 [(0, ptr 0 1 0 0), (15, slc false 1 1 0 20 none), (16, iI 20), (17, iI (IntKind.wrap IntKind.i64 (i + 1)))]) ([rows true 1 [[str (tkR s)]], rows false 1 (flC 2), rows true 20 [setCells u0 j [iI (tkV s)]]])) ∧ (((tkOk s 1099511627776 = false)) → Q (AExit.pan 117) (mkR 117 [(0, ptr 0 1 0 0), (15, slc false 1 1 0 20 none), (16, iI 20), (17, iI i)]) ([dead, rows false 1 (flC 2), rows true 20 [u0]])) ∧ (((tkOk s 1099511627776 = true)) ∨ ((tkOk s 1099511627776 = false))))
theorem tCI0_wp (u0 : List AVal) (i : Int) (j : Nat) (s : ByteArray) {Q : AExit → Regs → AState → Prop} (h : tCI0_T u0 i j s Q) : ∃ e rg' σ', TripN Try.prog 3 (loopNo Try.f60 0) (rgtC i) (hptC u0 s) e rg' σ' ∧ Q e rg' σ' :=
  Or.elim h.2.2.2.2.2.2 (fun (c0 : (tkOk s 1099511627776 = true)) => ⟨_, _, _, tCI0_1 u0 i j s ((h.2.2.2.2.1 c0).1) (c0) (h.2.2.2.1) (h.2.2.1) (h.2.1) (h.1), (h.2.2.2.2.1 c0).2⟩) (fun (c1 : (tkOk s 1099511627776 = false)) => ⟨_, _, _, tCI0_2 u0 i j s (c1) (h.2.2.2.1) (h.2.2.1) (h.2.1) (h.1), (h.2.2.2.2.2.1 c1)⟩)


theorem tCB0_1 (u0 : List AVal) (i : Int) (j : Nat) (s : ByteArray)
    (h1 : decide (j + 1 ≤ 20) = true)
    (h2 : tkOk s 1 = true)
    (h3 : asType Try.prog 20 [List.getD (List.getD (flC 2) (Int.toNat i) []) 0 any] = iface 101 (ptr 2 20 0 j))
    (h4 : decide (Int.toNat i < 20) = true)
    (h5 : decide (0 ≤ i ∧ i < (↑20 : Int)) = true)
    (h6 : decide (i < 20) = true) :
    TripN Try.prog 3 (loopNo Try.f60 0) (rgtC i) (hptC u0 s) (AExit.normal) (mkR 117 [(0, ptr 0 1 0 0), (15, slc false 1 1 0 20 none), (16, iI 20), (17, iI (IntKind.wrap IntKind.i64 (i + 1)))]) ([rows true 1 [[str (tkR s)]], rows false 1 (flC 2), rows true 20 [setCells u0 j [bool (tkV s == 1)]]]) :=
  evalT (st := St.mk (rgtC i) (hptC u0 s) ([Dec.br true, Dec.rwl (iface 101 (ptr 2 20 0 j)), Dec.use [0] [ptr 0 1 0 0, iI 1] [rows true 1 [[str s]]] (iI (tkV s)) [rows true 1 [[str (tkR s)]]]]) []) (st' := St.mk (mkR 117 [(0, ptr 0 1 0 0), (5, iface 101 (ptr 2 20 0 j)), (8, ptr 2 20 0 j), (15, slc false 1 1 0 20 none), (16, iI 20), (17, iI (IntKind.wrap IntKind.i64 (i + 1))), (18, tt true), (19, ptr 1 1 (Int.toNat i) 0), (20, iface 101 (ptr 2 20 0 j)), (21, iface 101 (ptr 2 20 0 j)), (22, tuple [nilp, tt false]), (23, tt false), (24, nilp), (29, tuple [nilp, tt false]), (30, tt false), (31, nilp), (36, tuple [ptr 2 20 0 j, tt true]), (37, tt true), (38, ptr 2 20 0 j), (39, ptr 2 20 0 j), (40, ptr 0 1 0 0), (41, iI (tkV s)), (42, bool (tkV s == 1)), (43, ptr 2 20 0 j), (116, iI (IntKind.wrap IntKind.i64 (i + 1)))]) ([rows true 1 [[str (tkR s)]], rows false 1 (flC 2), rows true 20 [setCells u0 j [bool (tkV s == 1)]]]) ([]) (tr 1 ++ ((decide (j + 1 ≤ 20) = true) :: ((oU 3 66 [0] [ptr 0 1 0 0, iI 1] [rows true 1 [[str s]], rows false 1 (flC 2), rows true 20 [u0]] [ptr 0 1 0 0, iI 1] [rows true 1 [[str s]]] (iI (tkV s)) [rows true 1 [[str (tkR s)]]]) :: ((asType Try.prog 20 [List.getD (List.getD (flC 2) (Int.toNat i) []) 0 any] = iface 101 (ptr 2 20 0 j)) :: ((decide (Int.toNat i < 20) = true) :: (tr 1 ++ ((decide (0 ≤ i ∧ i < (↑20 : Int)) = true) :: ((decide (i < 20) = true) :: []))))))))) followed (by kernel_rfl) (allP_of (trC 1 ⟨h1, ⟨⟨(@Go.L12.taken_ok (s) (1) h2), rfl, rfl, rfl⟩, ⟨h3, ⟨h4, (trC 1 ⟨h5, ⟨h6, trivial⟩⟩)⟩⟩⟩⟩)) (keepM 117 [0, 15, 16, 17]) ([0, 1, 2]) (by kernel_rfl) (by kernel_rfl) (by kernel_rfl)

theorem tCB0_2 (u0 : List AVal) (i : Int) (j : Nat) (s : ByteArray)
    (h1 : tkOk s 1 = false)
    (h2 : asType Try.prog 20 [List.getD (List.getD (flC 2) (Int.toNat i) []) 0 any] = iface 101 (ptr 2 20 0 j))
    (h3 : decide (Int.toNat i < 20) = true)
    (h4 : decide (0 ≤ i ∧ i < (↑20 : Int)) = true)
    (h5 : decide (i < 20) = true) :
    TripN Try.prog 3 (loopNo Try.f60 0) (rgtC i) (hptC u0 s) (AExit.pan 117) (mkR 117 [(0, ptr 0 1 0 0), (15, slc false 1 1 0 20 none), (16, iI 20), (17, iI i)]) ([dead, rows false 1 (flC 2), rows true 20 [u0]]) :=
  evalT (st := St.mk (rgtC i) (hptC u0 s) ([Dec.br true, Dec.rwl (iface 101 (ptr 2 20 0 j)), Dec.use [0] [ptr 0 1 0 0, iI 1] [rows true 1 [[str s]]] (pan 117) [dead]]) []) (st' := St.mk (mkR 117 [(0, ptr 0 1 0 0), (5, iface 101 (ptr 2 20 0 j)), (8, ptr 2 20 0 j), (15, slc false 1 1 0 20 none), (16, iI 20), (17, iI i), (18, tt true), (19, ptr 1 1 (Int.toNat i) 0), (20, iface 101 (ptr 2 20 0 j)), (21, iface 101 (ptr 2 20 0 j)), (22, tuple [nilp, tt false]), (23, tt false), (24, nilp), (29, tuple [nilp, tt false]), (30, tt false), (31, nilp), (36, tuple [ptr 2 20 0 j, tt true]), (37, tt true), (38, ptr 2 20 0 j), (39, ptr 2 20 0 j), (40, ptr 0 1 0 0)]) ([dead, rows false 1 (flC 2), rows true 20 [u0]]) ([]) ((oU 3 66 [0] [ptr 0 1 0 0, iI 1] [rows true 1 [[str s]], rows false 1 (flC 2), rows true 20 [u0]] [ptr 0 1 0 0, iI 1] [rows true 1 [[str s]]] (pan 117) [dead]) :: ((asType Try.prog 20 [List.getD (List.getD (flC 2) (Int.toNat i) []) 0 any] = iface 101 (ptr 2 20 0 j)) :: ((decide (Int.toNat i < 20) = true) :: (tr 1 ++ ((decide (0 ≤ i ∧ i < (↑20 : Int)) = true) :: ((decide (i < 20) = true) :: []))))))) followed (by kernel_rfl) (allP_of ⟨⟨(@Go.L12.taken_no (s) (1) h1), rfl, rfl, rfl⟩, ⟨h2, ⟨h3, (trC 1 ⟨h4, ⟨h5, trivial⟩⟩)⟩⟩⟩) (keepM 117 [0, 15, 16, 17]) ([0, 1, 2]) (by kernel_rfl) (by kernel_rfl) (by kernel_rfl)

def tCB0_T (u0 : List AVal) (i : Int) (j : Nat) (s : ByteArray) (Q : AExit → Regs → AState → Prop) : Prop := (decide (i < 20) = true) ∧ (decide (0 ≤ i ∧ i < (↑20 : Int)) = true) ∧ (decide (Int.toNat i < 20) = true) ∧ (asType Try.prog 20 [List.getD (List.getD (flC 2) (Int.toNat i) []) 0 any] = iface 101 (ptr 2 20 0 j)) ∧ ((((tkOk s 1 = true)) → (decide (j + 1 ≤ 20) = true) ∧ Q (AExit.normal) (mkR 117 [(0, ptr 0 1 0 0), (15, slc false 1 1 0 20 none), (16, iI 20), (17, iI (IntKind.wrap IntKind.i64 (i + 1)))]) ([rows true 1 [[str (tkR s)]], rows false 1 (flC 2), rows true 20 [setCells u0 j [bool (tkV s == 1)]]])) ∧ (((tkOk s 1 = false)) → Q (AExit.pan 117) (mkR 117 [(0, ptr 0 1 0 0), (15, slc false 1 1 0 20 none), (16, iI 20), (17, iI i)]) ([dead, rows false 1 (flC 2), rows true 20 [u0]])) ∧ (((tkOk s 1 = true)) ∨ ((tkOk s 1 = false))))
theorem tCB0_wp (u0 : List AVal) (i : Int) (j : Nat) (s : ByteArray) {Q : AExit → Regs → AState → Prop} (h : tCB0_T u0 i j s Q) : ∃ e rg' σ', TripN Try.prog 3 (loopNo Try.f60 0) (rgtC i) (hptC u0 s) e rg' σ' ∧ Q e rg' σ' :=
  Or.elim h.2.2.2.2.2.2 (fun (c0 : (tkOk s 1 = true)) => ⟨_, _, _, tCB0_1 u0 i j s ((h.2.2.2.2.1 c0).1) (c0) (h.2.2.2.1) (h.2.2.1) (h.2.1) (h.1), (h.2.2.2.2.1 c0).2⟩) (fun (c1 : (tkOk s 1 = false)) => ⟨_, _, _, tCB0_2 u0 i j s (c1) (h.2.2.2.1) (h.2.2.1) (h.2.1) (h.1), (h.2.2.2.2.2.1 c1)⟩)


theorem tCE0_1 (u0 : List AVal) (i : Int) (j : Nat) (s : ByteArray)
    (h1 : decide (j + 1 ≤ 20) = true)
    (h2 : tkOk s 1099511627776 = true)
    (h3 : asType Try.prog 20 [List.getD (List.getD (flC 2) (Int.toNat i) []) 0 any] = iface 102 (ptr 2 20 0 j))
    (h4 : decide (Int.toNat i < 20) = true)
    (h5 : decide (0 ≤ i ∧ i < (↑20 : Int)) = true)
    (h6 : decide (i < 20) = true) :
    TripN Try.prog 3 (loopNo Try.f60 0) (rgtC i) (hptC u0 s) (AExit.normal) (mkR 117 [(0, ptr 0 1 0 0), (15, slc false 1 1 0 20 none), (16, iI 20), (17, iI (IntKind.wrap IntKind.i64 (i + 1)))]) ([rows true 1 [[str (tkR s)]], rows false 1 (flC 2), rows true 20 [setCells u0 j [iI (tkV s)]]]) :=
  evalT (st := St.mk (rgtC i) (hptC u0 s) ([Dec.br true, Dec.rwl (iface 102 (ptr 2 20 0 j)), Dec.use [0] [ptr 0 1 0 0, iI 1099511627776] [rows true 1 [[str s]]] (iI (tkV s)) [rows true 1 [[str (tkR s)]]]]) []) (st' := St.mk (mkR 117 [(0, ptr 0 1 0 0), (5, iface 102 (ptr 2 20 0 j)), (7, ptr 2 20 0 j), (15, slc false 1 1 0 20 none), (16, iI 20), (17, iI (IntKind.wrap IntKind.i64 (i + 1))), (18, tt true), (19, ptr 1 1 (Int.toNat i) 0), (20, iface 102 (ptr 2 20 0 j)), (21, iface 102 (ptr 2 20 0 j)), (22, tuple [nilp, tt false]), (23, tt false), (24, nilp), (29, tuple [ptr 2 20 0 j, tt true]), (30, tt true), (31, ptr 2 20 0 j), (32, ptr 2 20 0 j), (33, ptr 0 1 0 0), (34, iI (tkV s)), (35, ptr 2 20 0 j), (116, iI (IntKind.wrap IntKind.i64 (i + 1)))]) ([rows true 1 [[str (tkR s)]], rows false 1 (flC 2), rows true 20 [setCells u0 j [iI (tkV s)]]]) ([]) (tr 1 ++ ((decide (j + 1 ≤ 20) = true) :: ((oU 3 66 [0] [ptr 0 1 0 0, iI 1099511627776] [rows true 1 [[str s]], rows false 1 (flC 2), rows true 20 [u0]] [ptr 0 1 0 0, iI 1099511627776] [rows true 1 [[str s]]] (iI (tkV s)) [rows true 1 [[str (tkR s)]]]) :: ((asType Try.prog 20 [List.getD (List.getD (flC 2) (Int.toNat i) []) 0 any] = iface 102 (ptr 2 20 0 j)) :: ((decide (Int.toNat i < 20) = true) :: (tr 1 ++ ((decide (0 ≤ i ∧ i < (↑20 : Int)) = true) :: ((decide (i < 20) = true) :: []))))))))) followed (by kernel_rfl) (allP_of (trC 1 ⟨h1, ⟨⟨(@Go.L12.taken_ok (s) (1099511627776) h2), rfl, rfl, rfl⟩, ⟨h3, ⟨h4, (trC 1 ⟨h5, ⟨h6, trivial⟩⟩)⟩⟩⟩⟩)) (keepM 117 [0, 15, 16, 17]) ([0, 1, 2]) (by kernel_rfl) (by kernel_rfl) (by kernel_rfl)

theorem tCE0_2 (u0 : List AVal) (i : Int) (j : Nat) (s : ByteArray)
    (h1 : tkOk s 1099511627776 = false)
    (h2 : asType Try.prog 20 [List.getD (List.getD (flC 2) (Int.toNat i) []) 0 any] = iface 102 (ptr 2 20 0 j))
    (h3 : decide (Int.toNat i < 20) = true)
    (h4 : decide (0 ≤ i ∧ i < (↑20 : Int)) = true)
    (h5 : decide (i < 20) = true) :
    TripN Try.prog 3 (loopNo Try.f60 0) (rgtC i) (hptC u0 s) (AExit.pan 117) (mkR 117 [(0, ptr 0 1 0 0), (15, slc false 1 1 0 20 none), (16, iI 20), (17, iI i)]) ([dead, rows false 1 (flC 2), rows true 20 [u0]]) :=
  evalT (st := St.mk (rgtC i) (hptC u0 s) ([Dec.br true, Dec.rwl (iface 102 (ptr 2 20 0 j)), Dec.use [0] [ptr 0 1 0 0, iI 1099511627776] [rows true 1 [[str s]]] (pan 117) [dead]]) []) (st' := St.mk (mkR 117 [(0, ptr 0 1 0 0), (5, iface 102 (ptr 2 20 0 j)), (7, ptr 2 20 0 j), (15, slc false 1 1 0 20 none), (16, iI 20), (17, iI i), (18, tt true), (19, ptr 1 1 (Int.toNat i) 0), (20, iface 102 (ptr 2 20 0 j)), (21, iface 102 (ptr 2 20 0 j)), (22, tuple [nilp, tt false]), (23, tt false), (24, nilp), (29, tuple [ptr 2 20 0 j, tt true]), (30, tt true), (31, ptr 2 20 0 j), (32, ptr 2 20 0 j), (33, ptr 0 1 0 0)]) ([dead, rows false 1 (flC 2), rows true 20 [u0]]) ([]) ((oU 3 66 [0] [ptr 0 1 0 0, iI 1099511627776] [rows true 1 [[str s]], rows false 1 (flC 2), rows true 20 [u0]] [ptr 0 1 0 0, iI 1099511627776] [rows true 1 [[str s]]] (pan 117) [dead]) :: ((asType Try.prog 20 [List.getD (List.getD (flC 2) (Int.toNat i) []) 0 any] = iface 102 (ptr 2 20 0 j)) :: ((decide (Int.toNat i < 20) = true) :: (tr 1 ++ ((decide (0 ≤ i ∧ i < (↑20 : Int)) = true) :: ((decide (i < 20) = true) :: []))))))) followed (by kernel_rfl) (allP_of ⟨⟨(@Go.L12.taken_no (s) (1099511627776) h1), rfl, rfl, rfl⟩, ⟨h2, ⟨h3, (trC 1 ⟨h4, ⟨h5, trivial⟩⟩)⟩⟩⟩) (keepM 117 [0, 15, 16, 17]) ([0, 1, 2]) (by kernel_rfl) (by kernel_rfl) (by kernel_rfl)

def tCE0_T (u0 : List AVal) (i : Int) (j : Nat) (s : ByteArray) (Q : AExit → Regs → AState → Prop) : Prop := (decide (i < 20) = true) ∧ (decide (0 ≤ i ∧ i < (↑20 : Int)) = true) ∧ (decide (Int.toNat i < 20) = true) ∧ (asType Try.prog 20 [List.getD (List.getD (flC 2) (Int.toNat i) []) 0 any] = iface 102 (ptr 2 20 0 j)) ∧ ((((tkOk s 1099511627776 = true)) → (decide (j + 1 ≤ 20) = true) ∧ Q (AExit.normal) (mkR 117 [(0, ptr 0 1 0 0), (15, slc false 1 1 0 20 none), (16, iI 20), (17, iI (IntKind.wrap IntKind.i64 (i + 1)))]) ([rows true 1 [[str (tkR s)]], rows false 1 (flC 2), rows true 20 [setCells u0 j [iI (tkV s)]]])) ∧ (((tkOk s 1099511627776 = false)) → Q (AExit.pan 117) (mkR 117 [(0, ptr 0 1 0 0), (15, slc false 1 1 0 20 none), (16, iI 20), (17, iI i)]) ([dead, rows false 1 (flC 2), rows true 20 [u0]])) ∧ (((tkOk s 1099511627776 = true)) ∨ ((tkOk s 1099511627776 = false))))
theorem tCE0_wp (u0 : List AVal) (i : Int) (j : Nat) (s : ByteArray) {Q : AExit → Regs → AState → Prop} (h : tCE0_T u0 i j s Q) : ∃ e rg' σ', TripN Try.prog 3 (loopNo Try.f60 0) (rgtC i) (hptC u0 s) e rg' σ' ∧ Q e rg' σ' :=
  Or.elim h.2.2.2.2.2.2 (fun (c0 : (tkOk s 1099511627776 = true)) => ⟨_, _, _, tCE0_1 u0 i j s ((h.2.2.2.2.1 c0).1) (c0) (h.2.2.2.1) (h.2.2.1) (h.2.1) (h.1), (h.2.2.2.2.1 c0).2⟩) (fun (c1 : (tkOk s 1099511627776 = false)) => ⟨_, _, _, tCE0_2 u0 i j s (c1) (h.2.2.2.1) (h.2.2.1) (h.2.1) (h.1), (h.2.2.2.2.2.1 c1)⟩)


theorem tCS0_1 (u0 : List AVal) (i : Int) (j : Nat) (s : ByteArray)
    (h1 : decide (j + 1 ≤ 20) = true)
    (h2 : decide (0 ≤ tkV s ∧ tkV s ≤ (↑(ByteArray.size (tkR s)) : Int) ∧ (↑(ByteArray.size (tkR s)) : Int) ≤ (↑(ByteArray.size (tkR s)) : Int)) = true)
    (h3 : decide (0 ≤ (↑0 : Int) ∧ (↑0 : Int) ≤ tkV s ∧ tkV s ≤ (↑(ByteArray.size (tkR s)) : Int)) = true)
    (h4 : decide (tkV s ≤ (↑(ByteArray.size (tkR s)) : Int)) = true)
    (h5 : tkOk s 262144 = true)
    (h6 : asType Try.prog 20 [List.getD (List.getD (flC 2) (Int.toNat i) []) 0 any] = iface 104 (ptr 2 20 0 j))
    (h7 : decide (Int.toNat i < 20) = true)
    (h8 : decide (0 ≤ i ∧ i < (↑20 : Int)) = true)
    (h9 : decide (i < 20) = true) :
    TripN Try.prog 3 (loopNo Try.f60 0) (rgtC i) (hptC u0 s) (AExit.normal) (mkR 117 [(0, ptr 0 1 0 0), (15, slc false 1 1 0 20 none), (16, iI 20), (17, iI (IntKind.wrap IntKind.i64 (i + 1)))]) ([rows true 1 [[str (ByteArray.extract (tkR s) (Int.toNat (tkV s)) (Int.toNat (↑(ByteArray.size (tkR s)) : Int)))]], rows false 1 (flC 2), rows true 20 [setCells u0 j [str (ByteArray.extract (tkR s) 0 (Int.toNat (tkV s)))]]]) :=
  evalT (st := St.mk (rgtC i) (hptC u0 s) ([Dec.br true, Dec.rwl (iface 104 (ptr 2 20 0 j)), Dec.use [0] [ptr 0 1 0 0, iI 262144] [rows true 1 [[str s]]] (iI (tkV s)) [rows true 1 [[str (tkR s)]]], Dec.use [] [bool (decide (tkV s ≤ (↑(ByteArray.size (tkR s)) : Int)))] [] (tuple []) []]) []) (st' := St.mk (mkR 117 [(0, ptr 0 1 0 0), (5, iface 104 (ptr 2 20 0 j)), (9, ptr 2 20 0 j), (10, iI (tkV s)), (15, slc false 1 1 0 20 none), (16, iI 20), (17, iI (IntKind.wrap IntKind.i64 (i + 1))), (18, tt true), (19, ptr 1 1 (Int.toNat i) 0), (20, iface 104 (ptr 2 20 0 j)), (21, iface 104 (ptr 2 20 0 j)), (22, tuple [nilp, tt false]), (23, tt false), (24, nilp), (29, tuple [nilp, tt false]), (30, tt false), (31, nilp), (36, tuple [nilp, tt false]), (37, tt false), (38, nilp), (44, tuple [ptr 2 20 0 j, tt true]), (45, tt true), (46, ptr 2 20 0 j), (47, ptr 0 1 0 0), (48, iI (tkV s)), (49, iI (tkV s)), (50, ptr 0 1 0 0), (51, ptr 0 1 0 0), (52, str (tkR s)), (53, iI (↑(ByteArray.size (tkR s)) : Int)), (54, bool (decide (tkV s ≤ (↑(ByteArray.size (tkR s)) : Int)))), (55, tuple []), (56, ptr 2 20 0 j), (57, ptr 0 1 0 0), (58, ptr 0 1 0 0), (59, ptr 0 1 0 0), (60, str (tkR s)), (61, iI (tkV s)), (62, str (ByteArray.extract (tkR s) 0 (Int.toNat (tkV s)))), (63, ptr 0 1 0 0), (64, ptr 0 1 0 0), (65, str (tkR s)), (66, iI (tkV s)), (67, str (ByteArray.extract (tkR s) (Int.toNat (tkV s)) (Int.toNat (↑(ByteArray.size (tkR s)) : Int)))), (68, ptr 2 20 0 j), (69, ptr 0 1 0 0), (116, iI (IntKind.wrap IntKind.i64 (i + 1)))]) ([rows true 1 [[str (ByteArray.extract (tkR s) (Int.toNat (tkV s)) (Int.toNat (↑(ByteArray.size (tkR s)) : Int)))]], rows false 1 (flC 2), rows true 20 [setCells u0 j [str (ByteArray.extract (tkR s) 0 (Int.toNat (tkV s)))]]]) ([]) (tr 12 ++ ((decide (j + 1 ≤ 20) = true) :: (tr 4 ++ ((decide (0 ≤ tkV s ∧ tkV s ≤ (↑(ByteArray.size (tkR s)) : Int) ∧ (↑(ByteArray.size (tkR s)) : Int) ≤ (↑(ByteArray.size (tkR s)) : Int)) = true) :: (tr 20 ++ ((decide (0 ≤ (↑0 : Int) ∧ (↑0 : Int) ≤ tkV s ∧ tkV s ≤ (↑(ByteArray.size (tkR s)) : Int)) = true) :: (tr 18 ++ ((oU 3 58 [] [bool (decide (tkV s ≤ (↑(ByteArray.size (tkR s)) : Int)))] [rows true 1 [[str (tkR s)]], rows false 1 (flC 2), rows true 20 [u0]] [bool (decide (tkV s ≤ (↑(ByteArray.size (tkR s)) : Int)))] [] (tuple []) []) :: (tr 3 ++ ((oU 3 66 [0] [ptr 0 1 0 0, iI 262144] [rows true 1 [[str s]], rows false 1 (flC 2), rows true 20 [u0]] [ptr 0 1 0 0, iI 262144] [rows true 1 [[str s]]] (iI (tkV s)) [rows true 1 [[str (tkR s)]]]) :: ((asType Try.prog 20 [List.getD (List.getD (flC 2) (Int.toNat i) []) 0 any] = iface 104 (ptr 2 20 0 j)) :: ((decide (Int.toNat i < 20) = true) :: (tr 1 ++ ((decide (0 ≤ i ∧ i < (↑20 : Int)) = true) :: ((decide (i < 20) = true) :: [])))))))))))))))) followed (by kernel_rfl) (allP_of (trC 12 ⟨h1, (trC 4 ⟨h2, (trC 20 ⟨h3, (trC 18 ⟨⟨(@Go.L12.right_ok (decide (tkV s ≤ (↑(ByteArray.size (tkR s)) : Int))) h4), rfl, rfl, rfl⟩, (trC 3 ⟨⟨(@Go.L12.taken_ok (s) (262144) h5), rfl, rfl, rfl⟩, ⟨h6, ⟨h7, (trC 1 ⟨h8, ⟨h9, trivial⟩⟩)⟩⟩⟩)⟩)⟩)⟩)⟩)) (keepM 117 [0, 15, 16, 17]) ([0, 1, 2]) (by kernel_rfl) (by kernel_rfl) (by kernel_rfl)

theorem tCS0_2 (u0 : List AVal) (i : Int) (j : Nat) (s : ByteArray)
    (h1 : decide (tkV s ≤ (↑(ByteArray.size (tkR s)) : Int)) = false)
    (h2 : tkOk s 262144 = true)
    (h3 : asType Try.prog 20 [List.getD (List.getD (flC 2) (Int.toNat i) []) 0 any] = iface 104 (ptr 2 20 0 j))
    (h4 : decide (Int.toNat i < 20) = true)
    (h5 : decide (0 ≤ i ∧ i < (↑20 : Int)) = true)
    (h6 : decide (i < 20) = true) :
    TripN Try.prog 3 (loopNo Try.f60 0) (rgtC i) (hptC u0 s) (AExit.pan 117) (mkR 117 [(0, ptr 0 1 0 0), (15, slc false 1 1 0 20 none), (16, iI 20), (17, iI i)]) ([rows true 1 [[str (tkR s)]], rows false 1 (flC 2), rows true 20 [u0]]) :=
  evalT (st := St.mk (rgtC i) (hptC u0 s) ([Dec.br true, Dec.rwl (iface 104 (ptr 2 20 0 j)), Dec.use [0] [ptr 0 1 0 0, iI 262144] [rows true 1 [[str s]]] (iI (tkV s)) [rows true 1 [[str (tkR s)]]], Dec.use [] [bool (decide (tkV s ≤ (↑(ByteArray.size (tkR s)) : Int)))] [] (pan 117) []]) []) (st' := St.mk (mkR 117 [(0, ptr 0 1 0 0), (5, iface 104 (ptr 2 20 0 j)), (9, ptr 2 20 0 j), (10, iI (tkV s)), (15, slc false 1 1 0 20 none), (16, iI 20), (17, iI i), (18, tt true), (19, ptr 1 1 (Int.toNat i) 0), (20, iface 104 (ptr 2 20 0 j)), (21, iface 104 (ptr 2 20 0 j)), (22, tuple [nilp, tt false]), (23, tt false), (24, nilp), (29, tuple [nilp, tt false]), (30, tt false), (31, nilp), (36, tuple [nilp, tt false]), (37, tt false), (38, nilp), (44, tuple [ptr 2 20 0 j, tt true]), (45, tt true), (46, ptr 2 20 0 j), (47, ptr 0 1 0 0), (48, iI (tkV s)), (49, iI (tkV s)), (50, ptr 0 1 0 0), (51, ptr 0 1 0 0), (52, str (tkR s)), (53, iI (↑(ByteArray.size (tkR s)) : Int)), (54, bool (decide (tkV s ≤ (↑(ByteArray.size (tkR s)) : Int))))]) ([rows true 1 [[str (tkR s)]], rows false 1 (flC 2), rows true 20 [u0]]) ([]) ((oU 3 58 [] [bool (decide (tkV s ≤ (↑(ByteArray.size (tkR s)) : Int)))] [rows true 1 [[str (tkR s)]], rows false 1 (flC 2), rows true 20 [u0]] [bool (decide (tkV s ≤ (↑(ByteArray.size (tkR s)) : Int)))] [] (pan 117) []) :: (tr 3 ++ ((oU 3 66 [0] [ptr 0 1 0 0, iI 262144] [rows true 1 [[str s]], rows false 1 (flC 2), rows true 20 [u0]] [ptr 0 1 0 0, iI 262144] [rows true 1 [[str s]]] (iI (tkV s)) [rows true 1 [[str (tkR s)]]]) :: ((asType Try.prog 20 [List.getD (List.getD (flC 2) (Int.toNat i) []) 0 any] = iface 104 (ptr 2 20 0 j)) :: ((decide (Int.toNat i < 20) = true) :: (tr 1 ++ ((decide (0 ≤ i ∧ i < (↑20 : Int)) = true) :: ((decide (i < 20) = true) :: []))))))))) followed (by kernel_rfl) (allP_of ⟨⟨(@Go.L12.right_no (decide (tkV s ≤ (↑(ByteArray.size (tkR s)) : Int))) h1), rfl, rfl, rfl⟩, (trC 3 ⟨⟨(@Go.L12.taken_ok (s) (262144) h2), rfl, rfl, rfl⟩, ⟨h3, ⟨h4, (trC 1 ⟨h5, ⟨h6, trivial⟩⟩)⟩⟩⟩)⟩) (keepM 117 [0, 15, 16, 17]) ([0, 1, 2]) (by kernel_rfl) (by kernel_rfl) (by kernel_rfl)

theorem tCS0_3 (u0 : List AVal) (i : Int) (j : Nat) (s : ByteArray)
    (h1 : tkOk s 262144 = false)
    (h2 : asType Try.prog 20 [List.getD (List.getD (flC 2) (Int.toNat i) []) 0 any] = iface 104 (ptr 2 20 0 j))
    (h3 : decide (Int.toNat i < 20) = true)
    (h4 : decide (0 ≤ i ∧ i < (↑20 : Int)) = true)
    (h5 : decide (i < 20) = true) :
    TripN Try.prog 3 (loopNo Try.f60 0) (rgtC i) (hptC u0 s) (AExit.pan 117) (mkR 117 [(0, ptr 0 1 0 0), (15, slc false 1 1 0 20 none), (16, iI 20), (17, iI i)]) ([dead, rows false 1 (flC 2), rows true 20 [u0]]) :=
  evalT (st := St.mk (rgtC i) (hptC u0 s) ([Dec.br true, Dec.rwl (iface 104 (ptr 2 20 0 j)), Dec.use [0] [ptr 0 1 0 0, iI 262144] [rows true 1 [[str s]]] (pan 117) [dead]]) []) (st' := St.mk (mkR 117 [(0, ptr 0 1 0 0), (5, iface 104 (ptr 2 20 0 j)), (9, ptr 2 20 0 j), (15, slc false 1 1 0 20 none), (16, iI 20), (17, iI i), (18, tt true), (19, ptr 1 1 (Int.toNat i) 0), (20, iface 104 (ptr 2 20 0 j)), (21, iface 104 (ptr 2 20 0 j)), (22, tuple [nilp, tt false]), (23, tt false), (24, nilp), (29, tuple [nilp, tt false]), (30, tt false), (31, nilp), (36, tuple [nilp, tt false]), (37, tt false), (38, nilp), (44, tuple [ptr 2 20 0 j, tt true]), (45, tt true), (46, ptr 2 20 0 j), (47, ptr 0 1 0 0)]) ([dead, rows false 1 (flC 2), rows true 20 [u0]]) ([]) ((oU 3 66 [0] [ptr 0 1 0 0, iI 262144] [rows true 1 [[str s]], rows false 1 (flC 2), rows true 20 [u0]] [ptr 0 1 0 0, iI 262144] [rows true 1 [[str s]]] (pan 117) [dead]) :: ((asType Try.prog 20 [List.getD (List.getD (flC 2) (Int.toNat i) []) 0 any] = iface 104 (ptr 2 20 0 j)) :: ((decide (Int.toNat i < 20) = true) :: (tr 1 ++ ((decide (0 ≤ i ∧ i < (↑20 : Int)) = true) :: ((decide (i < 20) = true) :: []))))))) followed (by kernel_rfl) (allP_of ⟨⟨(@Go.L12.taken_no (s) (262144) h1), rfl, rfl, rfl⟩, ⟨h2, ⟨h3, (trC 1 ⟨h4, ⟨h5, trivial⟩⟩)⟩⟩⟩) (keepM 117 [0, 15, 16, 17]) ([0, 1, 2]) (by kernel_rfl) (by kernel_rfl) (by kernel_rfl)

def tCS0_T (u0 : List AVal) (i : Int) (j : Nat) (s : ByteArray) (Q : AExit → Regs → AState → Prop) : Prop := (decide (i < 20) = true) ∧ (decide (0 ≤ i ∧ i < (↑20 : Int)) = true) ∧ (decide (Int.toNat i < 20) = true) ∧ (asType Try.prog 20 [List.getD (List.getD (flC 2) (Int.toNat i) []) 0 any] = iface 104 (ptr 2 20 0 j)) ∧ ((((tkOk s 262144 = true)) → ((((decide (tkV s ≤ (↑(ByteArray.size (tkR s)) : Int)) = true)) → (decide (0 ≤ (↑0 : Int) ∧ (↑0 : Int) ≤ tkV s ∧ tkV s ≤ (↑(ByteArray.size (tkR s)) : Int)) = true) ∧ (decide (0 ≤ tkV s ∧ tkV s ≤ (↑(ByteArray.size (tkR s)) : Int) ∧ (↑(ByteArray.size (tkR s)) : Int) ≤ (↑(ByteArray.size (tkR s)) : Int)) = true) ∧ (decide (j + 1 ≤ 20) = true) ∧ Q (AExit.normal) (mkR 117 [(0, ptr 0 1 0 0), (15, slc false 1 1 0 20 none), (16, iI 20), (17, iI (IntKind.wrap IntKind.i64 (i + 1)))]) ([rows true 1 [[str (ByteArray.extract (tkR s) (Int.toNat (tkV s)) (Int.toNat (↑(ByteArray.size (tkR s)) : Int)))]], rows false 1 (flC 2), rows true 20 [setCells u0 j [str (ByteArray.extract (tkR s) 0 (Int.toNat (tkV s)))]]])) ∧ (((decide (tkV s ≤ (↑(ByteArray.size (tkR s)) : Int)) = false)) → Q (AExit.pan 117) (mkR 117 [(0, ptr 0 1 0 0), (15, slc false 1 1 0 20 none), (16, iI 20), (17, iI i)]) ([rows true 1 [[str (tkR s)]], rows false 1 (flC 2), rows true 20 [u0]])) ∧ (((decide (tkV s ≤ (↑(ByteArray.size (tkR s)) : Int)) = true)) ∨ ((decide (tkV s ≤ (↑(ByteArray.size (tkR s)) : Int)) = false))))) ∧ (((tkOk s 262144 = false)) → Q (AExit.pan 117) (mkR 117 [(0, ptr 0 1 0 0), (15, slc false 1 1 0 20 none), (16, iI 20), (17, iI i)]) ([dead, rows false 1 (flC 2), rows true 20 [u0]])) ∧ (((tkOk s 262144 = true)) ∨ ((tkOk s 262144 = false))))
theorem tCS0_wp (u0 : List AVal) (i : Int) (j : Nat) (s : ByteArray) {Q : AExit → Regs → AState → Prop} (h : tCS0_T u0 i j s Q) : ∃ e rg' σ', TripN Try.prog 3 (loopNo Try.f60 0) (rgtC i) (hptC u0 s) e rg' σ' ∧ Q e rg' σ' :=
  Or.elim h.2.2.2.2.2.2 (fun (c0 : (tkOk s 262144 = true)) => Or.elim (h.2.2.2.2.1 c0).2.2 (fun (c1 : (decide (tkV s ≤ (↑(ByteArray.size (tkR s)) : Int)) = true)) => ⟨_, _, _, tCS0_1 u0 i j s (((h.2.2.2.2.1 c0).1 c1).2.2.1) (((h.2.2.2.2.1 c0).1 c1).2.1) (((h.2.2.2.2.1 c0).1 c1).1) (c1) (c0) (h.2.2.2.1) (h.2.2.1) (h.2.1) (h.1), ((h.2.2.2.2.1 c0).1 c1).2.2.2⟩) (fun (c2 : (decide (tkV s ≤ (↑(ByteArray.size (tkR s)) : Int)) = false)) => ⟨_, _, _, tCS0_2 u0 i j s (c2) (c0) (h.2.2.2.1) (h.2.2.1) (h.2.1) (h.1), ((h.2.2.2.2.1 c0).2.1 c2)⟩)) (fun (c3 : (tkOk s 262144 = false)) => ⟨_, _, _, tCS0_3 u0 i j s (c3) (h.2.2.2.1) (h.2.2.1) (h.2.1) (h.1), (h.2.2.2.2.2.1 c3)⟩)


theorem tCX_1 (u0 : List AVal) (i : Int) (s : ByteArray)
    (h1 : decide (i < 20) = false) :
    TripN Try.prog 3 (loopNo Try.f60 0) (rgtC i) (hptC u0 s) (AExit.exit 0) (mkR 117 [(0, ptr 0 1 0 0), (15, slc false 1 1 0 20 none), (16, iI 20), (17, iI i)]) ([rows true 1 [[str s]], rows false 1 (flC 2), rows true 20 [u0]]) :=
  evalT (st := St.mk (rgtC i) (hptC u0 s) ([Dec.br false]) []) (st' := St.mk (mkR 117 [(0, ptr 0 1 0 0), (15, slc false 1 1 0 20 none), (16, iI 20), (17, iI i), (18, tt false)]) ([rows true 1 [[str s]], rows false 1 (flC 2), rows true 20 [u0]]) ([]) ((decide (i < 20) = false) :: [])) followed (by kernel_rfl) (allP_of ⟨h1, trivial⟩) (keepM 117 [0, 15, 16, 17]) ([0, 1, 2]) (by kernel_rfl) (by kernel_rfl) (by kernel_rfl)

def tCX_T (u0 : List AVal) (i : Int) (s : ByteArray) (Q : AExit → Regs → AState → Prop) : Prop := (decide (i < 20) = false) ∧ Q (AExit.exit 0) (mkR 117 [(0, ptr 0 1 0 0), (15, slc false 1 1 0 20 none), (16, iI 20), (17, iI i)]) ([rows true 1 [[str s]], rows false 1 (flC 2), rows true 20 [u0]])
theorem tCX_wp (u0 : List AVal) (i : Int) (s : ByteArray) {Q : AExit → Regs → AState → Prop} (h : tCX_T u0 i s Q) : ∃ e rg' σ', TripN Try.prog 3 (loopNo Try.f60 0) (rgtC i) (hptC u0 s) e rg' σ' ∧ Q e rg' σ' :=
  ⟨_, _, _, tCX_1 u0 i s (h.1), h.2⟩


end Go.L12
end

section
set_option linter.unusedVariables false
set_option linter.unusedSimpArgs false
set_option maxRecDepth 100000
namespace Go.L12
open Go Go.Abs Go.Proofs

def FC : List (Nat × Nat × Nat) := [(100, 0, 0), (100, 0, 1), (100, 0, 2), (100, 0, 12), (100, 0, 13), (100, 0, 14), (100, 0, 15), (100, 0, 16), (101, 0, 17), (102, 0, 18), (100, 0, 3), (104, 0, 4), (104, 0, 5), (104, 0, 6), (104, 0, 7), (104, 0, 8), (104, 0, 9), (100, 0, 10), (100, 0, 11), (104, 0, 19)]
abbrev flCp : List (List AVal) := (flC 3)
abbrev flCt : List (List AVal) := (flC 2)
theorem pCI0_r (u0 : List AVal) (i j : Nat) (hi : i < 20) (hfl : asType Try.prog 20 [List.getD (List.getD flCp i []) 0 .any] = .iface 100 (.ptr 3 20 0 j)) (hj : j + 1 ≤ 20) (hk : oI (u0.getD j .any)) (l : List UInt8) (hl : l.length ≤ 35184372088832) :
    (∀ b, putF 100 (u0.getD j .any) = some b → TripN Try.prog 4 (loopNo Try.f64 0) (rgpC (i : Nat)) (hppC u0 l.length (rowsL l)) .normal (rgpC ((i + 1 : Nat) : Int)) (hppC u0 (l ++ b).length (rowsL (l ++ b)))) ∧ (putF 100 (u0.getD j .any) = none → ∃ rg' σ', TripN Try.prog 4 (loopNo Try.f64 0) (rgpC (i : Nat)) (hppC u0 l.length (rowsL l)) (.pan 117) rg' σ') := by
  have w1 : IntKind.wrap .i64 ((i : Int) + 1) = ((i + 1 : Nat) : Int) := by rw [wrapS (by omega) (by omega)]; omega
  have hlr : (rowsL l).length = l.length := List.length_map _
  obtain ⟨v, hn, hv1, hv2⟩ := hk
  rw [hn]
  refine ⟨fun b hb => TripN.wp (pCI0_wp u0 i j l.length (rowsL l) ?_), fun hb => TripN.wpE (pCI0_wp u0 i j l.length (rowsL l) ?_)⟩
  · unfold pCI0_T
    rw [Int.toNat_natCast, w1, hn]
    simp only [AVal.toInt]
    have hb : pI v = some b := hb
    unfold pI at hb
    split at hb
    · rename_i ho
      cases hb
      refine ⟨decide_eq_true (by omega), decide_eq_true (by omega), decide_eq_true (by omega), hfl, rfl, decide_eq_true (by omega), fun _ => ⟨by trivial, by first | rfl | trivial, ?_⟩, fun c => absurd c.1 (by rw [ho]; simp), .inl ⟨ho, hlr.symm, by rw [hlr]; omega⟩⟩
      rw [nRows_rowsL, rowsL_append, List.length_append, List.length_map]
    · cases hb
  · unfold pCI0_T
    rw [Int.toNat_natCast, w1, hn]
    simp only [AVal.toInt]
    have hb : pI v = none := hb
    unfold pI at hb
    split at hb
    · cases hb
    · rename_i ho
      have ho : nOk v = false := by simpa using ho
      exact ⟨decide_eq_true (by omega), decide_eq_true (by omega), decide_eq_true (by omega), hfl, rfl, decide_eq_true (by omega), fun c => absurd c.1 (by rw [ho]; simp), fun _ => by trivial, .inr ⟨ho, hv2⟩⟩

theorem pCB0_r (u0 : List AVal) (i j : Nat) (hi : i < 20) (hfl : asType Try.prog 20 [List.getD (List.getD flCp i []) 0 .any] = .iface 101 (.ptr 3 20 0 j)) (hj : j + 1 ≤ 20) (hk : (∃ b, u0.getD j .any = .bool b)) (l : List UInt8) (hl : l.length ≤ 35184372088832) :
    (∀ b, putF 101 (u0.getD j .any) = some b → TripN Try.prog 4 (loopNo Try.f64 0) (rgpC (i : Nat)) (hppC u0 l.length (rowsL l)) .normal (rgpC ((i + 1 : Nat) : Int)) (hppC u0 (l ++ b).length (rowsL (l ++ b)))) ∧ (putF 101 (u0.getD j .any) = none → ∃ rg' σ', TripN Try.prog 4 (loopNo Try.f64 0) (rgpC (i : Nat)) (hppC u0 l.length (rowsL l)) (.pan 117) rg' σ') := by
  have w1 : IntKind.wrap .i64 ((i : Int) + 1) = ((i + 1 : Nat) : Int) := by rw [wrapS (by omega) (by omega)]; omega
  have hlr : (rowsL l).length = l.length := List.length_map _
  obtain ⟨v, hn⟩ := hk
  rw [hn]
  have num1 := fun (n : Int) (x : UInt8) (hx : (x.toNat : Int) = n) (h : 0 ≤ n ∧ n < 2) => by
    have h1 := num_ok n (rowsL l) l.length (decide_eq_true (by omega)) hlr.symm (by rw [hlr]; omega)
    rw [show nRows n = [[.int .u8 n]] by rw [nRows_rowsL, vbl_lt (by omega)]; simp [brow]; omega] at h1
    exact h1
  refine ⟨fun b hb => TripN.wp (pCB0_wp u0 i j l.length (rowsL l) ?_), fun hb => by cases hb⟩
  unfold pCB0_T
  rw [Int.toNat_natCast, w1, hn]
  simp only [AVal.toBool]
  cases hb
  cases v with
  | true =>
    refine ⟨decide_eq_true (by omega), decide_eq_true (by omega), decide_eq_true (by omega), hfl, rfl, decide_eq_true (by omega), fun _ => ⟨num1 1 1 rfl (by omega), by trivial, by first | rfl | trivial, ?_⟩, fun c => by cases c⟩
    rw [List.length_append]; simp [AVal.toBool, brow]
  | false =>
    refine ⟨decide_eq_true (by omega), decide_eq_true (by omega), decide_eq_true (by omega), hfl, rfl, decide_eq_true (by omega), fun c => (by cases c), fun _ => ⟨num1 0 0 rfl (by omega), by trivial, by first | rfl | trivial, ?_⟩⟩
    rw [List.length_append]; simp [AVal.toBool, brow]

theorem pCE0_r (u0 : List AVal) (i j : Nat) (hi : i < 20) (hfl : asType Try.prog 20 [List.getD (List.getD flCp i []) 0 .any] = .iface 102 (.ptr 3 20 0 j)) (hj : j + 1 ≤ 20) (hk : oI (u0.getD j .any)) (l : List UInt8) (hl : l.length ≤ 35184372088832) :
    (∀ b, putF 102 (u0.getD j .any) = some b → TripN Try.prog 4 (loopNo Try.f64 0) (rgpC (i : Nat)) (hppC u0 l.length (rowsL l)) .normal (rgpC ((i + 1 : Nat) : Int)) (hppC u0 (l ++ b).length (rowsL (l ++ b)))) ∧ (putF 102 (u0.getD j .any) = none → ∃ rg' σ', TripN Try.prog 4 (loopNo Try.f64 0) (rgpC (i : Nat)) (hppC u0 l.length (rowsL l)) (.pan 117) rg' σ') := by
  have w1 : IntKind.wrap .i64 ((i : Int) + 1) = ((i + 1 : Nat) : Int) := by rw [wrapS (by omega) (by omega)]; omega
  have hlr : (rowsL l).length = l.length := List.length_map _
  obtain ⟨v, hn, hv1, hv2⟩ := hk
  rw [hn]
  refine ⟨fun b hb => TripN.wp (pCE0_wp u0 i j l.length (rowsL l) ?_), fun hb => TripN.wpE (pCE0_wp u0 i j l.length (rowsL l) ?_)⟩
  · unfold pCE0_T
    rw [Int.toNat_natCast, w1, hn]
    simp only [AVal.toInt]
    have hb : pI v = some b := hb
    unfold pI at hb
    split at hb
    · rename_i ho
      cases hb
      refine ⟨decide_eq_true (by omega), decide_eq_true (by omega), decide_eq_true (by omega), hfl, rfl, decide_eq_true (by omega), fun _ => ⟨by trivial, by first | rfl | trivial, ?_⟩, fun c => absurd c.1 (by rw [ho]; simp), .inl ⟨ho, hlr.symm, by rw [hlr]; omega⟩⟩
      rw [nRows_rowsL, rowsL_append, List.length_append, List.length_map]
    · cases hb
  · unfold pCE0_T
    rw [Int.toNat_natCast, w1, hn]
    simp only [AVal.toInt]
    have hb : pI v = none := hb
    unfold pI at hb
    split at hb
    · cases hb
    · rename_i ho
      have ho : nOk v = false := by simpa using ho
      exact ⟨decide_eq_true (by omega), decide_eq_true (by omega), decide_eq_true (by omega), hfl, rfl, decide_eq_true (by omega), fun c => absurd c.1 (by rw [ho]; simp), fun _ => by trivial, .inr ⟨ho, hv2⟩⟩

theorem pCS0_r (u0 : List AVal) (i j : Nat) (hi : i < 20) (hfl : asType Try.prog 20 [List.getD (List.getD flCp i []) 0 .any] = .iface 104 (.ptr 3 20 0 j)) (hj : j + 1 ≤ 20) (hk : (∃ s, u0.getD j .any = .str s)) (l : List UInt8) (hl : l.length ≤ 35184372088832) :
    (∀ b, putF 104 (u0.getD j .any) = some b → TripN Try.prog 4 (loopNo Try.f64 0) (rgpC (i : Nat)) (hppC u0 l.length (rowsL l)) .normal (rgpC ((i + 1 : Nat) : Int)) (hppC u0 (l ++ b).length (rowsL (l ++ b)))) ∧ (putF 104 (u0.getD j .any) = none → ∃ rg' σ', TripN Try.prog 4 (loopNo Try.f64 0) (rgpC (i : Nat)) (hppC u0 l.length (rowsL l)) (.pan 117) rg' σ') := by
  have w1 : IntKind.wrap .i64 ((i : Int) + 1) = ((i + 1 : Nat) : Int) := by rw [wrapS (by omega) (by omega)]; omega
  have hlr : (rowsL l).length = l.length := List.length_map _
  obtain ⟨v, hn⟩ := hk
  rw [hn]
  refine ⟨fun b hb => TripN.wp (pCS0_wp u0 i j l.length (rowsL l) ?_), fun hb => TripN.wpE (pCS0_wp u0 i j l.length (rowsL l) ?_)⟩
  · unfold pCS0_T
    rw [Int.toNat_natCast, w1, hn]
    simp only [AVal.toStr]
    have hb : pS v = some b := hb
    unfold pS at hb
    split at hb
    · rename_i ho
      cases hb
      have h9 := nRows_len (n := (v.size : Int)) (by omega)
      have hok : nOk (v.size : Int) = true := decide_eq_true ⟨by omega, by omega⟩
      refine ⟨decide_eq_true (by omega), decide_eq_true (by omega), decide_eq_true (by omega), hfl, rfl, decide_eq_true (by omega), fun _ => ⟨fun _ => ⟨by rw [List.length_append, hlr], ho, by rw [List.length_append, hlr]; omega, by trivial, by first | rfl | trivial, ?_⟩, fun c => absurd c.1 (by rw [hok]; simp), .inl ⟨hok, hlr.symm, by rw [hlr]; omega⟩⟩, fun c => absurd (of_decide_eq_false c) (by omega), .inl (decide_eq_true (by omega))⟩
      rw [nRows_rowsL, byteRows_rowsL, rowsL_append, rowsL_append, List.length_map, List.length_map, Int.toNat_natCast, List.length_append, List.length_append, List.append_assoc, Nat.add_assoc]
    · cases hb
  · unfold pCS0_T
    rw [Int.toNat_natCast, w1, hn]
    simp only [AVal.toStr]
    have hb : pS v = none := hb
    unfold pS at hb
    split at hb
    · cases hb
    · rename_i ho
      exact ⟨decide_eq_true (by omega), decide_eq_true (by omega), decide_eq_true (by omega), hfl, rfl, decide_eq_true (by omega), fun c => absurd (of_decide_eq_true c) (by omega), fun _ => by trivial, .inr (decide_eq_false (by omega))⟩

def objC (u0 : List AVal) (o : Nat) : List AVal := u0
def fpC (u0 : List AVal) (i : Nat) : Option (List UInt8) := putF (FC.getD i (0, 0, 0)).1 ((objC u0 (FC.getD i (0, 0, 0)).2.1).getD (FC.getD i (0, 0, 0)).2.2 .any)
def kC (u0 : List AVal) : Prop := ∀ i, i < 20 → kF (FC.getD i (0, 0, 0)).1 ((objC u0 (FC.getD i (0, 0, 0)).2.1).getD (FC.getD i (0, 0, 0)).2.2 .any)
theorem pC_round (u0 : List AVal) (hk : kC u0) : ∀ i, i < 20 → ∀ l : List UInt8, l.length ≤ 17592186044416 + i * 40000000 → (∀ b, fpC u0 i = some b → TripN Try.prog 4 (loopNo Try.f64 0) (rgpC (i : Nat)) (hppC u0 l.length (rowsL l)) .normal (rgpC ((i + 1 : Nat) : Int)) (hppC u0 (l ++ b).length (rowsL (l ++ b)))) ∧ (fpC u0 i = none → ∃ rg' σ', TripN Try.prog 4 (loopNo Try.f64 0) (rgpC (i : Nat)) (hppC u0 l.length (rowsL l)) (.pan 117) rg' σ')
  | 0, hi, l, hl => pCI0_r u0 0 0 hi (by kernel_rfl) (by omega) (hk 0 (by omega)) l (by omega)
  | 1, hi, l, hl => pCI0_r u0 1 1 hi (by kernel_rfl) (by omega) (hk 1 (by omega)) l (by omega)
  | 2, hi, l, hl => pCI0_r u0 2 2 hi (by kernel_rfl) (by omega) (hk 2 (by omega)) l (by omega)
  | 3, hi, l, hl => pCI0_r u0 3 12 hi (by kernel_rfl) (by omega) (hk 3 (by omega)) l (by omega)
  | 4, hi, l, hl => pCI0_r u0 4 13 hi (by kernel_rfl) (by omega) (hk 4 (by omega)) l (by omega)
  | 5, hi, l, hl => pCI0_r u0 5 14 hi (by kernel_rfl) (by omega) (hk 5 (by omega)) l (by omega)
  | 6, hi, l, hl => pCI0_r u0 6 15 hi (by kernel_rfl) (by omega) (hk 6 (by omega)) l (by omega)
  | 7, hi, l, hl => pCI0_r u0 7 16 hi (by kernel_rfl) (by omega) (hk 7 (by omega)) l (by omega)
  | 8, hi, l, hl => pCB0_r u0 8 17 hi (by kernel_rfl) (by omega) (hk 8 (by omega)) l (by omega)
  | 9, hi, l, hl => pCE0_r u0 9 18 hi (by kernel_rfl) (by omega) (hk 9 (by omega)) l (by omega)
  | 10, hi, l, hl => pCI0_r u0 10 3 hi (by kernel_rfl) (by omega) (hk 10 (by omega)) l (by omega)
  | 11, hi, l, hl => pCS0_r u0 11 4 hi (by kernel_rfl) (by omega) (hk 11 (by omega)) l (by omega)
  | 12, hi, l, hl => pCS0_r u0 12 5 hi (by kernel_rfl) (by omega) (hk 12 (by omega)) l (by omega)
  | 13, hi, l, hl => pCS0_r u0 13 6 hi (by kernel_rfl) (by omega) (hk 13 (by omega)) l (by omega)
  | 14, hi, l, hl => pCS0_r u0 14 7 hi (by kernel_rfl) (by omega) (hk 14 (by omega)) l (by omega)
  | 15, hi, l, hl => pCS0_r u0 15 8 hi (by kernel_rfl) (by omega) (hk 15 (by omega)) l (by omega)
  | 16, hi, l, hl => pCS0_r u0 16 9 hi (by kernel_rfl) (by omega) (hk 16 (by omega)) l (by omega)
  | 17, hi, l, hl => pCI0_r u0 17 10 hi (by kernel_rfl) (by omega) (hk 17 (by omega)) l (by omega)
  | 18, hi, l, hl => pCI0_r u0 18 11 hi (by kernel_rfl) (by omega) (hk 18 (by omega)) l (by omega)
  | 19, hi, l, hl => pCS0_r u0 19 19 hi (by kernel_rfl) (by omega) (hk 19 (by omega)) l (by omega)
  | n + 20, hi, l, hl => absurd hi (by omega)
theorem putsC_ok (u0 : List AVal) (hk : kC u0) (l b : List UInt8) (hl : l.length ≤ 17592186044416) (hb : seqO (fpC u0) 20 0 = some b) :
    FOk Try.prog 64 [.ptr 0 2 0 0, .slc false 1 1 0 20 none] [.rows false 2 [[.ptr 0 2 0 0, .slc false 2 1 0 l.length none]], .rows false 1 flCp, .trows 5 true 1 (rowsL l), .rows true 20 [u0]] (.tuple []) [.rows false 2 [[.ptr 0 2 0 0, .slc false 4 1 0 (l ++ b).length none]], .rows false 1 flCp, .dead, .rows true 20 [u0], .trows 5 true 1 (rowsL (l ++ b))] := by
  have r := (puts_run (c := loopNo Try.f64 0) 20 (fun i => rgpC (i : Nat)) (fun l => hppC u0 l.length (rowsL l)) (fpC u0) 17592186044416 40000000 0 (fun i b h => putF_len h) (fun l => TripN.wp (pCX_wp u0 20 l.length (rowsL l) ⟨by kernel_rfl, rfl, rfl, rfl⟩)) (pC_round u0 hk) 20 0 (by omega) l (by omega)).1 b hb
  exact (evalF_ok followed Try.func64 (by kernel_rfl) (show evalF Try.prog Try.f64 [.ptr 0 2 0 0, .slc false 1 1 0 20 none] [.rows false 2 [[.ptr 0 2 0 0, .slc false 2 1 0 l.length none]], .rows false 1 flCp, .trows 5 true 1 (rowsL l), .rows true 20 [u0]] [Dec.lift 2, Dec.compact (keepM 148 [0, 15, 16, 17]) [0, 1, 2, 3, 4], Dec.loop (.exit 0) (rgpC 20) (hppC u0 (l ++ b).length (rowsL (l ++ b)))] = .ok (FRes.mk (.tuple []) (hppC u0 (l ++ b).length (rowsL (l ++ b))) [(owed Try.prog 4).loop (loopNo Try.f64 0) (rgpC 0) (hppC u0 l.length (rowsL l)) (.exit 0) (rgpC 20) (hppC u0 (l ++ b).length (rowsL (l ++ b)))]) by kernel_rfl) (allP_of ⟨r.trip, trivial⟩)).move [0, 1, 2, 3, 4] (by kernel_rfl) (by kernel_rfl) (by kernel_rfl)
theorem tCI0_r (u0 : List AVal) (i j : Nat) (hi : i < 20) (hfl : asType Try.prog 20 [List.getD (List.getD flCt i []) 0 .any] = .iface 100 (.ptr 2 20 0 j)) (hj : j + 1 ≤ 20) (s : ByteArray) :
    (∀ x, takeF 100 s = some x → TripN Try.prog 3 (loopNo Try.f60 0) (rgtC (i : Nat)) (hptC u0 s) .normal (rgtC ((i + 1 : Nat) : Int)) (hptC (u0.set j x.1) x.2)) ∧ (takeF 100 s = none → ∃ rg' σ', TripN Try.prog 3 (loopNo Try.f60 0) (rgtC (i : Nat)) (hptC u0 s) (.pan 117) rg' σ') := by
  have w1 : IntKind.wrap .i64 ((i : Int) + 1) = ((i + 1 : Nat) : Int) := by rw [wrapS (by omega) (by omega)]; omega
  have h0 : 0 ≤ tkV s := Int.natCast_nonneg _
  have e : takeF 100 s = (tI 1099511627776 s).map fun x => (.int .i64 x.1, x.2) := rfl
  rw [e]
  unfold tI
  cases ho : tkOk s 1099511627776 with
  | true =>
    refine ⟨fun x hx => ?_, fun h => by cases h⟩
    cases hx
    refine TripN.wp (tCI0_wp u0 i j s ?_)
    unfold tCI0_T
    rw [Int.toNat_natCast, w1]
    exact ⟨decide_eq_true (by omega), decide_eq_true (by omega), decide_eq_true (by omega), hfl, fun _ => ⟨decide_eq_true (by omega), rfl, rfl, rfl⟩, fun c => absurd c (by rw [ho]; simp), .inl ho⟩
  | false =>
    refine ⟨fun x hx => (by cases hx), fun h => TripN.wpE (tCI0_wp u0 i j s ?_)⟩
    unfold tCI0_T
    rw [Int.toNat_natCast, w1]
    exact ⟨decide_eq_true (by omega), decide_eq_true (by omega), decide_eq_true (by omega), hfl, fun c => absurd c (by rw [ho]; simp), fun _ => rfl, .inr ho⟩

theorem tCB0_r (u0 : List AVal) (i j : Nat) (hi : i < 20) (hfl : asType Try.prog 20 [List.getD (List.getD flCt i []) 0 .any] = .iface 101 (.ptr 2 20 0 j)) (hj : j + 1 ≤ 20) (s : ByteArray) :
    (∀ x, takeF 101 s = some x → TripN Try.prog 3 (loopNo Try.f60 0) (rgtC (i : Nat)) (hptC u0 s) .normal (rgtC ((i + 1 : Nat) : Int)) (hptC (u0.set j x.1) x.2)) ∧ (takeF 101 s = none → ∃ rg' σ', TripN Try.prog 3 (loopNo Try.f60 0) (rgtC (i : Nat)) (hptC u0 s) (.pan 117) rg' σ') := by
  have w1 : IntKind.wrap .i64 ((i : Int) + 1) = ((i + 1 : Nat) : Int) := by rw [wrapS (by omega) (by omega)]; omega
  have h0 : 0 ≤ tkV s := Int.natCast_nonneg _
  have e : takeF 101 s = (tB s).map fun x => (.bool x.1, x.2) := rfl
  rw [e]
  unfold tB
  cases ho : tkOk s 1 with
  | true =>
    refine ⟨fun x hx => ?_, fun h => by cases h⟩
    cases hx
    refine TripN.wp (tCB0_wp u0 i j s ?_)
    unfold tCB0_T
    rw [Int.toNat_natCast, w1]
    exact ⟨decide_eq_true (by omega), decide_eq_true (by omega), decide_eq_true (by omega), hfl, fun _ => ⟨decide_eq_true (by omega), rfl, rfl, rfl⟩, fun c => absurd c (by rw [ho]; simp), .inl ho⟩
  | false =>
    refine ⟨fun x hx => (by cases hx), fun h => TripN.wpE (tCB0_wp u0 i j s ?_)⟩
    unfold tCB0_T
    rw [Int.toNat_natCast, w1]
    exact ⟨decide_eq_true (by omega), decide_eq_true (by omega), decide_eq_true (by omega), hfl, fun c => absurd c (by rw [ho]; simp), fun _ => rfl, .inr ho⟩

theorem tCE0_r (u0 : List AVal) (i j : Nat) (hi : i < 20) (hfl : asType Try.prog 20 [List.getD (List.getD flCt i []) 0 .any] = .iface 102 (.ptr 2 20 0 j)) (hj : j + 1 ≤ 20) (s : ByteArray) :
    (∀ x, takeF 102 s = some x → TripN Try.prog 3 (loopNo Try.f60 0) (rgtC (i : Nat)) (hptC u0 s) .normal (rgtC ((i + 1 : Nat) : Int)) (hptC (u0.set j x.1) x.2)) ∧ (takeF 102 s = none → ∃ rg' σ', TripN Try.prog 3 (loopNo Try.f60 0) (rgtC (i : Nat)) (hptC u0 s) (.pan 117) rg' σ') := by
  have w1 : IntKind.wrap .i64 ((i : Int) + 1) = ((i + 1 : Nat) : Int) := by rw [wrapS (by omega) (by omega)]; omega
  have h0 : 0 ≤ tkV s := Int.natCast_nonneg _
  have e : takeF 102 s = (tI 1099511627776 s).map fun x => (.int .i64 x.1, x.2) := rfl
  rw [e]
  unfold tI
  cases ho : tkOk s 1099511627776 with
  | true =>
    refine ⟨fun x hx => ?_, fun h => by cases h⟩
    cases hx
    refine TripN.wp (tCE0_wp u0 i j s ?_)
    unfold tCE0_T
    rw [Int.toNat_natCast, w1]
    exact ⟨decide_eq_true (by omega), decide_eq_true (by omega), decide_eq_true (by omega), hfl, fun _ => ⟨decide_eq_true (by omega), rfl, rfl, rfl⟩, fun c => absurd c (by rw [ho]; simp), .inl ho⟩
  | false =>
    refine ⟨fun x hx => (by cases hx), fun h => TripN.wpE (tCE0_wp u0 i j s ?_)⟩
    unfold tCE0_T
    rw [Int.toNat_natCast, w1]
    exact ⟨decide_eq_true (by omega), decide_eq_true (by omega), decide_eq_true (by omega), hfl, fun c => absurd c (by rw [ho]; simp), fun _ => rfl, .inr ho⟩

theorem tCS0_r (u0 : List AVal) (i j : Nat) (hi : i < 20) (hfl : asType Try.prog 20 [List.getD (List.getD flCt i []) 0 .any] = .iface 104 (.ptr 2 20 0 j)) (hj : j + 1 ≤ 20) (s : ByteArray) :
    (∀ x, takeF 104 s = some x → TripN Try.prog 3 (loopNo Try.f60 0) (rgtC (i : Nat)) (hptC u0 s) .normal (rgtC ((i + 1 : Nat) : Int)) (hptC (u0.set j x.1) x.2)) ∧ (takeF 104 s = none → ∃ rg' σ', TripN Try.prog 3 (loopNo Try.f60 0) (rgtC (i : Nat)) (hptC u0 s) (.pan 117) rg' σ') := by
  have w1 : IntKind.wrap .i64 ((i : Int) + 1) = ((i + 1 : Nat) : Int) := by rw [wrapS (by omega) (by omega)]; omega
  have h0 : 0 ≤ tkV s := Int.natCast_nonneg _
  have e : takeF 104 s = (tS s).map fun x => (.str x.1, x.2) := rfl
  rw [e]
  unfold tS
  cases ho : tkOk s 262144 with
  | true =>
    rw [if_pos rfl]
    by_cases hv : tkV s ≤ ((tkR s).size : Int)
    · rw [if_pos hv]
      refine ⟨fun x hx => ?_, fun h => by cases h⟩
      cases hx
      refine TripN.wp (tCS0_wp u0 i j s ?_)
      unfold tCS0_T
      rw [Int.toNat_natCast, Int.toNat_natCast, w1]
      exact ⟨decide_eq_true (by omega), decide_eq_true (by omega), decide_eq_true (by omega), hfl, fun _ => ⟨fun _ => ⟨decide_eq_true (by omega), decide_eq_true (by omega), decide_eq_true (by omega), rfl, rfl, rfl⟩, fun c => absurd (of_decide_eq_false c) (by omega), .inl (decide_eq_true hv)⟩, fun c => absurd c (by rw [ho]; simp), .inl ho⟩
    · rw [if_neg hv]
      refine ⟨fun x hx => (by cases hx), fun h => TripN.wpE (tCS0_wp u0 i j s ?_)⟩
      unfold tCS0_T
      rw [Int.toNat_natCast, Int.toNat_natCast, w1]
      exact ⟨decide_eq_true (by omega), decide_eq_true (by omega), decide_eq_true (by omega), hfl, fun _ => ⟨fun c => absurd (of_decide_eq_true c) (by omega), fun _ => rfl, .inr (decide_eq_false hv)⟩, fun c => absurd c (by rw [ho]; simp), .inl ho⟩
  | false =>
    refine ⟨fun x hx => (by cases hx), fun h => TripN.wpE (tCS0_wp u0 i j s ?_)⟩
    unfold tCS0_T
    rw [Int.toNat_natCast, Int.toNat_natCast, w1]
    exact ⟨decide_eq_true (by omega), decide_eq_true (by omega), decide_eq_true (by omega), hfl, fun c => absurd c (by rw [ho]; simp), fun _ => rfl, .inr ho⟩

def gtC (i : Nat) (u : List AVal) (s : ByteArray) : Option ((List AVal) × ByteArray) := (takeF (FC.getD i (0, 0, 0)).1 s).map fun x => (u.set (FC.getD i (0, 0, 0)).2.2 x.1, x.2)
theorem tC_round : ∀ i, i < 20 → ∀ (u : List AVal) (s : ByteArray), True → (∀ x, gtC i u s = some x → True ∧ TripN Try.prog 3 (loopNo Try.f60 0) (rgtC (i : Nat)) (hptC u s) .normal (rgtC ((i + 1 : Nat) : Int)) (hptC x.1 x.2)) ∧ (gtC i u s = none → ∃ rg' σ', TripN Try.prog 3 (loopNo Try.f60 0) (rgtC (i : Nat)) (hptC u s) (.pan 117) rg' σ')
  | 0, hi, u, s, _ => by
    obtain ⟨h1, h2⟩ := tCI0_r u 0 0 hi (by kernel_rfl) (by omega) s
    have e : gtC 0 u s = (takeF 100 s).map fun x => (u.set 0 x.1, x.2) := rfl
    rw [e]
    cases ht : takeF 100 s with
    | none => exact ⟨fun x hx => (by cases hx), fun _ => h2 ht⟩
    | some x => exact ⟨fun y hy => (by cases hy; exact ⟨trivial, h1 x ht⟩), fun h => by cases h⟩
  | 1, hi, u, s, _ => by
    obtain ⟨h1, h2⟩ := tCI0_r u 1 1 hi (by kernel_rfl) (by omega) s
    have e : gtC 1 u s = (takeF 100 s).map fun x => (u.set 1 x.1, x.2) := rfl
    rw [e]
    cases ht : takeF 100 s with
    | none => exact ⟨fun x hx => (by cases hx), fun _ => h2 ht⟩
    | some x => exact ⟨fun y hy => (by cases hy; exact ⟨trivial, h1 x ht⟩), fun h => by cases h⟩
  | 2, hi, u, s, _ => by
    obtain ⟨h1, h2⟩ := tCI0_r u 2 2 hi (by kernel_rfl) (by omega) s
    have e : gtC 2 u s = (takeF 100 s).map fun x => (u.set 2 x.1, x.2) := rfl
    rw [e]
    cases ht : takeF 100 s with
    | none => exact ⟨fun x hx => (by cases hx), fun _ => h2 ht⟩
    | some x => exact ⟨fun y hy => (by cases hy; exact ⟨trivial, h1 x ht⟩), fun h => by cases h⟩
  | 3, hi, u, s, _ => by
    obtain ⟨h1, h2⟩ := tCI0_r u 3 12 hi (by kernel_rfl) (by omega) s
    have e : gtC 3 u s = (takeF 100 s).map fun x => (u.set 12 x.1, x.2) := rfl
    rw [e]
    cases ht : takeF 100 s with
    | none => exact ⟨fun x hx => (by cases hx), fun _ => h2 ht⟩
    | some x => exact ⟨fun y hy => (by cases hy; exact ⟨trivial, h1 x ht⟩), fun h => by cases h⟩
  | 4, hi, u, s, _ => by
    obtain ⟨h1, h2⟩ := tCI0_r u 4 13 hi (by kernel_rfl) (by omega) s
    have e : gtC 4 u s = (takeF 100 s).map fun x => (u.set 13 x.1, x.2) := rfl
    rw [e]
    cases ht : takeF 100 s with
    | none => exact ⟨fun x hx => (by cases hx), fun _ => h2 ht⟩
    | some x => exact ⟨fun y hy => (by cases hy; exact ⟨trivial, h1 x ht⟩), fun h => by cases h⟩
  | 5, hi, u, s, _ => by
    obtain ⟨h1, h2⟩ := tCI0_r u 5 14 hi (by kernel_rfl) (by omega) s
    have e : gtC 5 u s = (takeF 100 s).map fun x => (u.set 14 x.1, x.2) := rfl
    rw [e]
    cases ht : takeF 100 s with
    | none => exact ⟨fun x hx => (by cases hx), fun _ => h2 ht⟩
    | some x => exact ⟨fun y hy => (by cases hy; exact ⟨trivial, h1 x ht⟩), fun h => by cases h⟩
  | 6, hi, u, s, _ => by
    obtain ⟨h1, h2⟩ := tCI0_r u 6 15 hi (by kernel_rfl) (by omega) s
    have e : gtC 6 u s = (takeF 100 s).map fun x => (u.set 15 x.1, x.2) := rfl
    rw [e]
    cases ht : takeF 100 s with
    | none => exact ⟨fun x hx => (by cases hx), fun _ => h2 ht⟩
    | some x => exact ⟨fun y hy => (by cases hy; exact ⟨trivial, h1 x ht⟩), fun h => by cases h⟩
  | 7, hi, u, s, _ => by
    obtain ⟨h1, h2⟩ := tCI0_r u 7 16 hi (by kernel_rfl) (by omega) s
    have e : gtC 7 u s = (takeF 100 s).map fun x => (u.set 16 x.1, x.2) := rfl
    rw [e]
    cases ht : takeF 100 s with
    | none => exact ⟨fun x hx => (by cases hx), fun _ => h2 ht⟩
    | some x => exact ⟨fun y hy => (by cases hy; exact ⟨trivial, h1 x ht⟩), fun h => by cases h⟩
  | 8, hi, u, s, _ => by
    obtain ⟨h1, h2⟩ := tCB0_r u 8 17 hi (by kernel_rfl) (by omega) s
    have e : gtC 8 u s = (takeF 101 s).map fun x => (u.set 17 x.1, x.2) := rfl
    rw [e]
    cases ht : takeF 101 s with
    | none => exact ⟨fun x hx => (by cases hx), fun _ => h2 ht⟩
    | some x => exact ⟨fun y hy => (by cases hy; exact ⟨trivial, h1 x ht⟩), fun h => by cases h⟩
  | 9, hi, u, s, _ => by
    obtain ⟨h1, h2⟩ := tCE0_r u 9 18 hi (by kernel_rfl) (by omega) s
    have e : gtC 9 u s = (takeF 102 s).map fun x => (u.set 18 x.1, x.2) := rfl
    rw [e]
    cases ht : takeF 102 s with
    | none => exact ⟨fun x hx => (by cases hx), fun _ => h2 ht⟩
    | some x => exact ⟨fun y hy => (by cases hy; exact ⟨trivial, h1 x ht⟩), fun h => by cases h⟩
  | 10, hi, u, s, _ => by
    obtain ⟨h1, h2⟩ := tCI0_r u 10 3 hi (by kernel_rfl) (by omega) s
    have e : gtC 10 u s = (takeF 100 s).map fun x => (u.set 3 x.1, x.2) := rfl
    rw [e]
    cases ht : takeF 100 s with
    | none => exact ⟨fun x hx => (by cases hx), fun _ => h2 ht⟩
    | some x => exact ⟨fun y hy => (by cases hy; exact ⟨trivial, h1 x ht⟩), fun h => by cases h⟩
  | 11, hi, u, s, _ => by
    obtain ⟨h1, h2⟩ := tCS0_r u 11 4 hi (by kernel_rfl) (by omega) s
    have e : gtC 11 u s = (takeF 104 s).map fun x => (u.set 4 x.1, x.2) := rfl
    rw [e]
    cases ht : takeF 104 s with
    | none => exact ⟨fun x hx => (by cases hx), fun _ => h2 ht⟩
    | some x => exact ⟨fun y hy => (by cases hy; exact ⟨trivial, h1 x ht⟩), fun h => by cases h⟩
  | 12, hi, u, s, _ => by
    obtain ⟨h1, h2⟩ := tCS0_r u 12 5 hi (by kernel_rfl) (by omega) s
    have e : gtC 12 u s = (takeF 104 s).map fun x => (u.set 5 x.1, x.2) := rfl
    rw [e]
    cases ht : takeF 104 s with
    | none => exact ⟨fun x hx => (by cases hx), fun _ => h2 ht⟩
    | some x => exact ⟨fun y hy => (by cases hy; exact ⟨trivial, h1 x ht⟩), fun h => by cases h⟩
  | 13, hi, u, s, _ => by
    obtain ⟨h1, h2⟩ := tCS0_r u 13 6 hi (by kernel_rfl) (by omega) s
    have e : gtC 13 u s = (takeF 104 s).map fun x => (u.set 6 x.1, x.2) := rfl
    rw [e]
    cases ht : takeF 104 s with
    | none => exact ⟨fun x hx => (by cases hx), fun _ => h2 ht⟩
    | some x => exact ⟨fun y hy => (by cases hy; exact ⟨trivial, h1 x ht⟩), fun h => by cases h⟩
  | 14, hi, u, s, _ => by
    obtain ⟨h1, h2⟩ := tCS0_r u 14 7 hi (by kernel_rfl) (by omega) s
    have e : gtC 14 u s = (takeF 104 s).map fun x => (u.set 7 x.1, x.2) := rfl
    rw [e]
    cases ht : takeF 104 s with
    | none => exact ⟨fun x hx => (by cases hx), fun _ => h2 ht⟩
    | some x => exact ⟨fun y hy => (by cases hy; exact ⟨trivial, h1 x ht⟩), fun h => by cases h⟩
  | 15, hi, u, s, _ => by
    obtain ⟨h1, h2⟩ := tCS0_r u 15 8 hi (by kernel_rfl) (by omega) s
    have e : gtC 15 u s = (takeF 104 s).map fun x => (u.set 8 x.1, x.2) := rfl
    rw [e]
    cases ht : takeF 104 s with
    | none => exact ⟨fun x hx => (by cases hx), fun _ => h2 ht⟩
    | some x => exact ⟨fun y hy => (by cases hy; exact ⟨trivial, h1 x ht⟩), fun h => by cases h⟩
  | 16, hi, u, s, _ => by
    obtain ⟨h1, h2⟩ := tCS0_r u 16 9 hi (by kernel_rfl) (by omega) s
    have e : gtC 16 u s = (takeF 104 s).map fun x => (u.set 9 x.1, x.2) := rfl
    rw [e]
    cases ht : takeF 104 s with
    | none => exact ⟨fun x hx => (by cases hx), fun _ => h2 ht⟩
    | some x => exact ⟨fun y hy => (by cases hy; exact ⟨trivial, h1 x ht⟩), fun h => by cases h⟩
  | 17, hi, u, s, _ => by
    obtain ⟨h1, h2⟩ := tCI0_r u 17 10 hi (by kernel_rfl) (by omega) s
    have e : gtC 17 u s = (takeF 100 s).map fun x => (u.set 10 x.1, x.2) := rfl
    rw [e]
    cases ht : takeF 100 s with
    | none => exact ⟨fun x hx => (by cases hx), fun _ => h2 ht⟩
    | some x => exact ⟨fun y hy => (by cases hy; exact ⟨trivial, h1 x ht⟩), fun h => by cases h⟩
  | 18, hi, u, s, _ => by
    obtain ⟨h1, h2⟩ := tCI0_r u 18 11 hi (by kernel_rfl) (by omega) s
    have e : gtC 18 u s = (takeF 100 s).map fun x => (u.set 11 x.1, x.2) := rfl
    rw [e]
    cases ht : takeF 100 s with
    | none => exact ⟨fun x hx => (by cases hx), fun _ => h2 ht⟩
    | some x => exact ⟨fun y hy => (by cases hy; exact ⟨trivial, h1 x ht⟩), fun h => by cases h⟩
  | 19, hi, u, s, _ => by
    obtain ⟨h1, h2⟩ := tCS0_r u 19 19 hi (by kernel_rfl) (by omega) s
    have e : gtC 19 u s = (takeF 104 s).map fun x => (u.set 19 x.1, x.2) := rfl
    rw [e]
    cases ht : takeF 104 s with
    | none => exact ⟨fun x hx => (by cases hx), fun _ => h2 ht⟩
    | some x => exact ⟨fun y hy => (by cases hy; exact ⟨trivial, h1 x ht⟩), fun h => by cases h⟩
  | n + 20, hi, u, s, _ => absurd hi (by omega)
theorem takesC_ok (u : List AVal) (s : ByteArray) (x : (List AVal) × ByteArray) (hb : seqG gtC 20 0 u s = some x) :
    FOk Try.prog 60 [.ptr 0 1 0 0, .slc false 1 1 0 20 none] [.rows true 1 [[.str s]], .rows false 1 flCt, .rows true 20 [u]] (.tuple []) [.rows true 1 [[.str x.2]], .rows false 1 flCt, .rows true 20 [x.1]] := by
  have r := (takes_run (c := loopNo Try.f60 0) 20 (fun i => rgtC (i : Nat)) (fun (u : List AVal) s => hptC u s) gtC (fun _ _ => True) 0 (fun u s _ => TripN.wp (tCX_wp u 20 s ⟨by kernel_rfl, rfl, rfl, rfl⟩)) tC_round 20 0 (by omega) u s trivial).1 x hb
  exact (evalF_ok followed Try.func60 (by kernel_rfl) (show evalF Try.prog Try.f60 [.ptr 0 1 0 0, .slc false 1 1 0 20 none] [.rows true 1 [[.str s]], .rows false 1 flCt, .rows true 20 [u]] [Dec.compact (keepM 117 [0, 15, 16, 17]) [0, 1, 2], Dec.loop (.exit 0) (rgtC 20) (hptC x.1 x.2)] = .ok (FRes.mk (.tuple []) (hptC x.1 x.2) [(owed Try.prog 3).loop (loopNo Try.f60 0) (rgtC 0) (hptC u s) (.exit 0) (rgtC 20) (hptC x.1 x.2)]) by kernel_rfl) (allP_of ⟨r.trip, trivial⟩)).move [0, 1, 2] (by kernel_rfl) (by kernel_rfl) (by kernel_rfl)
end Go.L12
end

section
set_option linter.unusedVariables false
set_option maxRecDepth 100000
namespace Go.L12
open Go Go.Abs Go.Abs.AVal Go.Abs.AObj Go.Proofs

theorem rTC_1 (u0 : List AVal) (k k2 : Nat) (bs bs2 : List (List AVal))
    (h1 : FOk Try.prog 64 [ptr 0 2 0 0, slc false 1 1 0 20 none] [rows false 2 [[ptr 0 2 0 0, slc false 2 1 0 k none]], rows false 1 (flC 3), trows 5 true 1 bs, rows true 20 [u0]] (tuple []) [rows false 2 [[ptr 0 2 0 0, slc false 4 1 0 k2 none]], rows false 1 (flC 3), dead, rows true 20 [u0], trows 5 true 1 bs2]) :
    TripN Try.prog 5 (codeTail (codeTail (bodyOf Try.f53))) (mkR 8 [(0, ptr 0 2 0 0), (1, slc false 1 1 0 20 none), (4, ptr 4 1 0 0)]) ([rows false 2 [[ptr 0 2 0 0, slc false 2 1 0 k none]], rows false 1 (flC 3), trows 5 true 1 bs, rows true 20 [u0], rows true 1 [[iI 0]]]) (AExit.ret) (mkR 8 [(4, ptr 4 1 0 0)]) ([rows false 2 [[ptr 0 2 0 0, slc false 5 1 0 k2 none]], rows false 1 (flC 3), dead, rows true 20 [u0], rows true 1 [[iI 0]], trows 5 true 1 bs2]) :=
  evalT (st := St.mk (mkR 8 [(0, ptr 0 2 0 0), (1, slc false 1 1 0 20 none), (4, ptr 4 1 0 0)]) ([rows false 2 [[ptr 0 2 0 0, slc false 2 1 0 k none]], rows false 1 (flC 3), trows 5 true 1 bs, rows true 20 [u0], rows true 1 [[iI 0]]]) ([Dec.use [0, 1, 2, 3] [ptr 0 2 0 0, slc false 1 1 0 20 none] [rows false 2 [[ptr 0 2 0 0, slc false 2 1 0 k none]], rows false 1 (flC 3), trows 5 true 1 bs, rows true 20 [u0]] (tuple []) [rows false 2 [[ptr 0 2 0 0, slc false 4 1 0 k2 none]], rows false 1 (flC 3), dead, rows true 20 [u0], trows 5 true 1 bs2]]) []) (st' := St.mk (mkR 8 [(0, ptr 0 2 0 0), (1, slc false 1 1 0 20 none), (4, ptr 4 1 0 0), (5, ptr 0 2 0 0), (6, slc false 1 1 0 20 none), (7, tuple [])]) ([rows false 2 [[ptr 0 2 0 0, slc false 5 1 0 k2 none]], rows false 1 (flC 3), dead, rows true 20 [u0], rows true 1 [[iI 0]], trows 5 true 1 bs2]) ([]) (tr 2 ++ ((oU 5 64 [0, 1, 2, 3] [ptr 0 2 0 0, slc false 1 1 0 20 none] [rows false 2 [[ptr 0 2 0 0, slc false 2 1 0 k none]], rows false 1 (flC 3), trows 5 true 1 bs, rows true 20 [u0], rows true 1 [[iI 0]]] [ptr 0 2 0 0, slc false 1 1 0 20 none] [rows false 2 [[ptr 0 2 0 0, slc false 2 1 0 k none]], rows false 1 (flC 3), trows 5 true 1 bs, rows true 20 [u0]] (tuple []) [rows false 2 [[ptr 0 2 0 0, slc false 4 1 0 k2 none]], rows false 1 (flC 3), dead, rows true 20 [u0], trows 5 true 1 bs2]) :: []))) followed (by kernel_rfl) (allP_of (trC 2 ⟨⟨h1, rfl, rfl, rfl⟩, trivial⟩)) (keepM 8 [4]) ([0, 1, 2, 3, 4, 5]) (by kernel_rfl) (by kernel_rfl) (by kernel_rfl)

theorem rFC_1 (u0 v0 : List AVal) (m s s2 : ByteArray) (b : Bool)
    (h1 : FOk Try.prog 58 [bool (ByteArray.toList s2 == ByteArray.toList (ByteArray.mk #[]))] [] (tuple []) [])
    (h2 : FOk Try.prog 60 [ptr 0 1 0 0, slc false 1 1 0 20 none] [rows true 1 [[str (ByteArray.extract s (Int.toNat (↑(ByteArray.size m) : Int)) (Int.toNat (↑(ByteArray.size s) : Int)))]], rows false 1 (flC 2), rows true 20 [u0]] (tuple []) [rows true 1 [[str s2]], rows false 1 (flC 2), rows true 20 [v0]])
    (h3 : decide (0 ≤ (↑(ByteArray.size m) : Int) ∧ (↑(ByteArray.size m) : Int) ≤ (↑(ByteArray.size s) : Int) ∧ (↑(ByteArray.size s) : Int) ≤ (↑(ByteArray.size s) : Int)) = true)
    (h4 : FOk Try.prog 58 [bool true] [] (tuple []) [])
    (h5 : FOk Try.prog 59 [str s, str m] [] (bool true) []) :
    TripN Try.prog 4 (codeTail (codeTail (bodyOf Try.f40))) (mkR 20 [(1, str m), (2, slc false 0 1 0 20 none), (3, ptr 2 1 0 0), (6, ptr 3 1 0 0)]) ([rows false 1 (flC 1), rows true 20 [u0], rows true 1 [[str s]], rows true 1 [[iI 0]]]) (AExit.ret) (mkR 20 [(6, ptr 3 1 0 0)]) ([rows false 1 (flC 1), rows true 20 [v0], rows true 1 [[str s2]], rows true 1 [[iI 0]]]) :=
  evalT (st := St.mk (mkR 20 [(1, str m), (2, slc false 0 1 0 20 none), (3, ptr 2 1 0 0), (6, ptr 3 1 0 0)]) ([rows false 1 (flC 1), rows true 20 [u0], rows true 1 [[str s]], rows true 1 [[iI 0]]]) ([Dec.use [] [str s, str m] [] (bool true) [], Dec.use [] [bool true] [] (tuple []) [], Dec.use [2, 0, 1] [ptr 0 1 0 0, slc false 1 1 0 20 none] [rows true 1 [[str (ByteArray.extract s (Int.toNat (↑(ByteArray.size m) : Int)) (Int.toNat (↑(ByteArray.size s) : Int)))]], rows false 1 (flC 2), rows true 20 [u0]] (tuple []) [rows true 1 [[str s2]], rows false 1 (flC 2), rows true 20 [v0]], Dec.use [] [bool (ByteArray.toList s2 == ByteArray.toList (ByteArray.mk #[]))] [] (tuple []) []]) []) (st' := St.mk (mkR 20 [(1, str m), (2, slc false 0 1 0 20 none), (3, ptr 2 1 0 0), (6, ptr 3 1 0 0), (7, str s), (8, str m), (9, bool true), (10, tuple []), (11, str s), (12, str m), (13, iI (↑(ByteArray.size m) : Int)), (14, str (ByteArray.extract s (Int.toNat (↑(ByteArray.size m) : Int)) (Int.toNat (↑(ByteArray.size s) : Int)))), (15, slc false 0 1 0 20 none), (16, tuple []), (17, str s2), (18, bool (ByteArray.toList s2 == ByteArray.toList (ByteArray.mk #[]))), (19, tuple [])]) ([rows false 1 (flC 1), rows true 20 [v0], rows true 1 [[str s2]], rows true 1 [[iI 0]]]) ([]) (tr 2 ++ ((oU 4 58 [] [bool (ByteArray.toList s2 == ByteArray.toList (ByteArray.mk #[]))] [rows false 1 (flC 1), rows true 20 [v0], rows true 1 [[str s2]], rows true 1 [[iI 0]]] [bool (ByteArray.toList s2 == ByteArray.toList (ByteArray.mk #[]))] [] (tuple []) []) :: (tr 3 ++ ((oU 4 60 [2, 0, 1] [ptr 2 1 0 0, slc false 0 1 0 20 none] [rows false 1 (flC 1), rows true 20 [u0], rows true 1 [[str (ByteArray.extract s (Int.toNat (↑(ByteArray.size m) : Int)) (Int.toNat (↑(ByteArray.size s) : Int)))]], rows true 1 [[iI 0]]] [ptr 0 1 0 0, slc false 1 1 0 20 none] [rows true 1 [[str (ByteArray.extract s (Int.toNat (↑(ByteArray.size m) : Int)) (Int.toNat (↑(ByteArray.size s) : Int)))]], rows false 1 (flC 2), rows true 20 [u0]] (tuple []) [rows true 1 [[str s2]], rows false 1 (flC 2), rows true 20 [v0]]) :: (tr 2 ++ ((decide (0 ≤ (↑(ByteArray.size m) : Int) ∧ (↑(ByteArray.size m) : Int) ≤ (↑(ByteArray.size s) : Int) ∧ (↑(ByteArray.size s) : Int) ≤ (↑(ByteArray.size s) : Int)) = true) :: (tr 3 ++ ((oU 4 58 [] [bool true] [rows false 1 (flC 1), rows true 20 [u0], rows true 1 [[str s]], rows true 1 [[iI 0]]] [bool true] [] (tuple []) []) :: ((oU 4 59 [] [str s, str m] [rows false 1 (flC 1), rows true 20 [u0], rows true 1 [[str s]], rows true 1 [[iI 0]]] [str s, str m] [] (bool true) []) :: (tr 3 ++ []))))))))))) followed (by kernel_rfl) (allP_of (trC 2 ⟨⟨h1, rfl, rfl, rfl⟩, (trC 3 ⟨⟨h2, rfl, rfl, rfl⟩, (trC 2 ⟨h3, (trC 3 ⟨⟨h4, rfl, rfl, rfl⟩, ⟨⟨h5, rfl, rfl, rfl⟩, (trC 3 trivial)⟩⟩)⟩)⟩)⟩)) (keepM 20 [6]) ([0, 1, 2, 3]) (by kernel_rfl) (by kernel_rfl) (by kernel_rfl)

theorem bTC_1 (u0 : List AVal) (k2 : Nat) (bs2 : List (List AVal)) :
    TripN Try.prog 6 (codeTail (bodyOf Try.f57)) (catchRegs 16 4 1 7 nili) ([rows false 2 [[ptr 0 2 0 0, slc false 5 1 0 k2 none]], rows false 1 (flC 3), dead, rows true 20 [u0], rows true 1 [[iI 0]], trows 5 true 1 bs2]) (AExit.normal) (mkR 16 []) ([rows false 2 [[ptr 0 2 0 0, slc false 5 1 0 k2 none]], rows false 1 (flC 3), dead, rows true 20 [u0], rows true 1 [[iI 0]], trows 5 true 1 bs2]) :=
  evalT (st := St.mk (catchRegs 16 4 1 7 nili) ([rows false 2 [[ptr 0 2 0 0, slc false 5 1 0 k2 none]], rows false 1 (flC 3), dead, rows true 20 [u0], rows true 1 [[iI 0]], trows 5 true 1 bs2]) ([Dec.br true]) []) (st' := St.mk (mkR 16 [(0, ptr 4 1 0 0), (1, iI 1), (2, tuple []), (3, tuple []), (4, nili), (5, tuple []), (6, tuple []), (7, nili), (8, tuple []), (9, tt true), (10, tuple []), (11, tuple []), (12, tuple []), (13, tuple []), (14, tuple []), (15, tuple [])]) ([rows false 2 [[ptr 0 2 0 0, slc false 5 1 0 k2 none]], rows false 1 (flC 3), dead, rows true 20 [u0], rows true 1 [[iI 0]], trows 5 true 1 bs2]) ([]) (tr 1 ++ [])) followed (by kernel_rfl) (allP_of (trC 1 trivial)) (keepM 16 []) ([0, 1, 2, 3, 4, 5]) (by kernel_rfl) (by kernel_rfl) (by kernel_rfl)

theorem bFC_1 (v0 : List AVal) (s2 : ByteArray) :
    TripN Try.prog 4 (codeTail (bodyOf Try.f57)) (catchRegs 16 3 140 7 nili) ([rows false 1 (flC 1), rows true 20 [v0], rows true 1 [[str s2]], rows true 1 [[iI 0]]]) (AExit.normal) (mkR 16 []) ([rows false 1 (flC 1), rows true 20 [v0], rows true 1 [[str s2]], rows true 1 [[iI 0]]]) :=
  evalT (st := St.mk (catchRegs 16 3 140 7 nili) ([rows false 1 (flC 1), rows true 20 [v0], rows true 1 [[str s2]], rows true 1 [[iI 0]]]) ([Dec.br true]) []) (st' := St.mk (mkR 16 [(0, ptr 3 1 0 0), (1, iI 140), (2, tuple []), (3, tuple []), (4, nili), (5, tuple []), (6, tuple []), (7, nili), (8, tuple []), (9, tt true), (10, tuple []), (11, tuple []), (12, tuple []), (13, tuple []), (14, tuple []), (15, tuple [])]) ([rows false 1 (flC 1), rows true 20 [v0], rows true 1 [[str s2]], rows true 1 [[iI 0]]]) ([]) (tr 1 ++ [])) followed (by kernel_rfl) (allP_of (trC 1 trivial)) (keepM 16 []) ([0, 1, 2, 3]) (by kernel_rfl) (by kernel_rfl) (by kernel_rfl)

theorem hTC_1 (u0 : List AVal) (k : Nat) (bs : List (List AVal)) :
    TripN Try.prog 4 (codeHd (bodyOf Try.f53)) ([ptr 0 2 0 0, slc false 1 1 0 20 none] ++ List.replicate (8 - 2) aundef) ([rows false 2 [[ptr 0 2 0 0, slc false 2 1 0 k none]], rows false 1 (flC 3), trows 5 true 1 bs, rows true 20 [u0]]) (AExit.normal) (mkR 8 [(0, ptr 0 2 0 0), (1, slc false 1 1 0 20 none), (4, ptr 4 1 0 0)]) ([rows false 2 [[ptr 0 2 0 0, slc false 2 1 0 k none]], rows false 1 (flC 3), trows 5 true 1 bs, rows true 20 [u0], rows true 1 [[iI 0]]]) :=
  evalT (st := St.mk ([ptr 0 2 0 0, slc false 1 1 0 20 none] ++ List.replicate (8 - 2) aundef) ([rows false 2 [[ptr 0 2 0 0, slc false 2 1 0 k none]], rows false 1 (flC 3), trows 5 true 1 bs, rows true 20 [u0]]) ([]) []) (st' := St.mk (mkR 8 [(0, ptr 0 2 0 0), (1, slc false 1 1 0 20 none), (2, tuple []), (3, tuple []), (4, ptr 4 1 0 0), (5, tuple []), (6, tuple []), (7, tuple [])]) ([rows false 2 [[ptr 0 2 0 0, slc false 2 1 0 k none]], rows false 1 (flC 3), trows 5 true 1 bs, rows true 20 [u0], rows true 1 [[iI 0]]]) ([]) []) followed (by kernel_rfl) (allP_of trivial) (keepM 8 [0, 1, 4]) ([0, 1, 2, 3, 4]) (by kernel_rfl) (by kernel_rfl) (by kernel_rfl)

theorem hFC_1 (u0 : List AVal) (s m : ByteArray) :
    TripN Try.prog 2 (codeHd (bodyOf Try.f40)) ([str s, str m, slc false 0 1 0 20 none] ++ List.replicate (20 - 3) aundef) ([rows false 1 (flC 1), rows true 20 [u0]]) (AExit.normal) (mkR 20 [(1, str m), (2, slc false 0 1 0 20 none), (3, ptr 2 1 0 0), (6, ptr 3 1 0 0)]) ([rows false 1 (flC 1), rows true 20 [u0], rows true 1 [[str s]], rows true 1 [[iI 0]]]) :=
  evalT (st := St.mk ([str s, str m, slc false 0 1 0 20 none] ++ List.replicate (20 - 3) aundef) ([rows false 1 (flC 1), rows true 20 [u0]]) ([]) []) (st' := St.mk (mkR 20 [(0, str s), (1, str m), (2, slc false 0 1 0 20 none), (3, ptr 2 1 0 0), (4, tuple []), (5, tuple []), (6, ptr 3 1 0 0), (7, tuple []), (8, tuple []), (9, tuple []), (10, tuple []), (11, tuple []), (12, tuple []), (13, tuple []), (14, tuple []), (15, tuple []), (16, tuple []), (17, tuple []), (18, tuple []), (19, tuple [])]) ([rows false 1 (flC 1), rows true 20 [u0], rows true 1 [[str s]], rows true 1 [[iI 0]]]) ([]) []) followed (by kernel_rfl) (allP_of trivial) (keepM 20 [1, 2, 3, 6]) ([0, 1, 2, 3]) (by kernel_rfl) (by kernel_rfl) (by kernel_rfl)

end Go.L12
end

section
set_option linter.unusedVariables false
set_option maxRecDepth 100000
namespace Go.L12.D
open Go Go.Abs Go.Proofs Go.L12
variable [DS]

theorem rTC_1 (u0 : List AVal) (k k2 : Nat) (bs bs2 : List (List AVal))
    (h1 : FOk Try.prog 64 [AVal.ptr 0 2 0 0, AVal.slc false 1 1 0 20 none] [AObj.rows false 2 [[AVal.ptr 0 2 0 0, AVal.slc false 2 1 0 k none]], AObj.rows false 1 (flC 3), AObj.trows 5 true 1 bs, AObj.rows true 20 [u0]] (AVal.tuple []) [AObj.rows false 2 [[AVal.ptr 0 2 0 0, AVal.slc false 4 1 0 k2 none]], AObj.rows false 1 (flC 3), AObj.dead, AObj.rows true 20 [u0], AObj.trows 5 true 1 bs2]) :
    TripN Try.prog 5 (codeTail (codeTail (bodyOf Try.f53))) (mkR 8 [(0, AVal.ptr 0 2 0 0), (1, AVal.slc false 1 1 0 20 none), (4, AVal.ptr 4 1 0 0)]) ([AObj.rows false 2 [[AVal.ptr 0 2 0 0, AVal.slc false 2 1 0 k none]], AObj.rows false 1 (flC 3), AObj.trows 5 true 1 bs, AObj.rows true 20 [u0], AObj.rows true 1 [[AVal.int IntKind.i64 0]]]) (AExit.ret) (mkR 8 [(4, AVal.ptr 4 1 0 0)]) ([AObj.rows false 2 [[AVal.ptr 0 2 0 0, AVal.slc false 5 1 0 k2 none]], AObj.rows false 1 (flC 3), AObj.dead, AObj.rows true 20 [u0], AObj.rows true 1 [[AVal.int IntKind.i64 0]], AObj.trows 5 true 1 bs2]) :=
  evalT (st := St.mk (mkR 8 [(0, AVal.ptr 0 2 0 0), (1, AVal.slc false 1 1 0 20 none), (4, AVal.ptr 4 1 0 0)]) ([AObj.rows false 2 [[AVal.ptr 0 2 0 0, AVal.slc false 2 1 0 k none]], AObj.rows false 1 (flC 3), AObj.trows 5 true 1 bs, AObj.rows true 20 [u0], AObj.rows true 1 [[AVal.int IntKind.i64 0]]]) ([Dec.use [0, 1, 2, 3] [AVal.ptr 0 2 0 0, AVal.slc false 1 1 0 20 none] [AObj.rows false 2 [[AVal.ptr 0 2 0 0, AVal.slc false 2 1 0 k none]], AObj.rows false 1 (flC 3), AObj.trows 5 true 1 bs, AObj.rows true 20 [u0]] (AVal.tuple []) [AObj.rows false 2 [[AVal.ptr 0 2 0 0, AVal.slc false 4 1 0 k2 none]], AObj.rows false 1 (flC 3), AObj.dead, AObj.rows true 20 [u0], AObj.trows 5 true 1 bs2]]) []) (st' := St.mk (mkR 8 [(0, AVal.ptr 0 2 0 0), (1, AVal.slc false 1 1 0 20 none), (4, AVal.ptr 4 1 0 0), (5, AVal.ptr 0 2 0 0), (6, AVal.slc false 1 1 0 20 none), (7, AVal.tuple [])]) ([AObj.rows false 2 [[AVal.ptr 0 2 0 0, AVal.slc false 5 1 0 k2 none]], AObj.rows false 1 (flC 3), AObj.dead, AObj.rows true 20 [u0], AObj.rows true 1 [[AVal.int IntKind.i64 0]], AObj.trows 5 true 1 bs2]) ([]) (tr 2 ++ ((Owed.use (owed Try.prog 5) 64 [0, 1, 2, 3] [AVal.ptr 0 2 0 0, AVal.slc false 1 1 0 20 none] [AObj.rows false 2 [[AVal.ptr 0 2 0 0, AVal.slc false 2 1 0 k none]], AObj.rows false 1 (flC 3), AObj.trows 5 true 1 bs, AObj.rows true 20 [u0], AObj.rows true 1 [[AVal.int IntKind.i64 0]]] [AVal.ptr 0 2 0 0, AVal.slc false 1 1 0 20 none] [AObj.rows false 2 [[AVal.ptr 0 2 0 0, AVal.slc false 2 1 0 k none]], AObj.rows false 1 (flC 3), AObj.trows 5 true 1 bs, AObj.rows true 20 [u0]] (AVal.tuple []) [AObj.rows false 2 [[AVal.ptr 0 2 0 0, AVal.slc false 4 1 0 k2 none]], AObj.rows false 1 (flC 3), AObj.dead, AObj.rows true 20 [u0], AObj.trows 5 true 1 bs2]) :: []))) followed (by kernel_rfl) (allP_of (trC 2 ⟨⟨h1, rfl, rfl, rfl⟩, trivial⟩)) (keepM 8 [4]) ([0, 1, 2, 3, 4, 5]) (by kernel_rfl) (by kernel_rfl) (by kernel_rfl)

theorem rFC_1 (u0 v0 : List AVal) (m s s2 : ByteArray) (b : Bool)
    (h1 : FOk Try.prog 58 [AVal.bool (ByteArray.toList s2 == ByteArray.toList (ByteArray.mk #[]))] [] (AVal.tuple []) [])
    (h2 : FOk Try.prog 60 [AVal.ptr 0 1 0 0, AVal.slc false 1 1 0 20 none] [AObj.rows true 1 [[AVal.str (ByteArray.extract s (Int.toNat (↑(ByteArray.size m) : Int)) (Int.toNat (↑(ByteArray.size s) : Int)))]], AObj.rows false 1 (flC 2), AObj.rows true 20 [u0]] (AVal.tuple []) [AObj.rows true 1 [[AVal.str s2]], AObj.rows false 1 (flC 2), AObj.rows true 20 [v0]])
    (h3 : decide (0 ≤ (↑(ByteArray.size m) : Int) ∧ (↑(ByteArray.size m) : Int) ≤ (↑(ByteArray.size s) : Int) ∧ (↑(ByteArray.size s) : Int) ≤ (↑(ByteArray.size s) : Int)) = true)
    (h4 : FOk Try.prog 58 [AVal.bool true] [] (AVal.tuple []) [])
    (h5 : FOk Try.prog 59 [AVal.str s, AVal.str m] [] (AVal.bool true) []) :
    TripN Try.prog 4 (codeTail (codeTail (bodyOf Try.f40))) (mkR 20 [(1, AVal.str m), (2, AVal.slc false 0 1 0 20 none), (3, AVal.ptr 2 1 0 0), (6, AVal.ptr 3 1 0 0)]) ([AObj.rows false 1 (flC 1), AObj.rows true 20 [u0], AObj.rows true 1 [[AVal.str s]], AObj.rows true 1 [[AVal.int IntKind.i64 0]]]) (AExit.ret) (mkR 20 [(6, AVal.ptr 3 1 0 0)]) ([AObj.rows false 1 (flC 1), AObj.rows true 20 [v0], AObj.rows true 1 [[AVal.str s2]], AObj.rows true 1 [[AVal.int IntKind.i64 0]]]) :=
  evalT (st := St.mk (mkR 20 [(1, AVal.str m), (2, AVal.slc false 0 1 0 20 none), (3, AVal.ptr 2 1 0 0), (6, AVal.ptr 3 1 0 0)]) ([AObj.rows false 1 (flC 1), AObj.rows true 20 [u0], AObj.rows true 1 [[AVal.str s]], AObj.rows true 1 [[AVal.int IntKind.i64 0]]]) ([Dec.use [] [AVal.str s, AVal.str m] [] (AVal.bool true) [], Dec.use [] [AVal.bool true] [] (AVal.tuple []) [], Dec.use [2, 0, 1] [AVal.ptr 0 1 0 0, AVal.slc false 1 1 0 20 none] [AObj.rows true 1 [[AVal.str (ByteArray.extract s (Int.toNat (↑(ByteArray.size m) : Int)) (Int.toNat (↑(ByteArray.size s) : Int)))]], AObj.rows false 1 (flC 2), AObj.rows true 20 [u0]] (AVal.tuple []) [AObj.rows true 1 [[AVal.str s2]], AObj.rows false 1 (flC 2), AObj.rows true 20 [v0]], Dec.use [] [AVal.bool (ByteArray.toList s2 == ByteArray.toList (ByteArray.mk #[]))] [] (AVal.tuple []) []]) []) (st' := St.mk (mkR 20 [(1, AVal.str m), (2, AVal.slc false 0 1 0 20 none), (3, AVal.ptr 2 1 0 0), (6, AVal.ptr 3 1 0 0), (7, AVal.str s), (8, AVal.str m), (9, AVal.bool true), (10, AVal.tuple []), (11, AVal.str s), (12, AVal.str m), (13, AVal.int IntKind.i64 (↑(ByteArray.size m) : Int)), (14, AVal.str (ByteArray.extract s (Int.toNat (↑(ByteArray.size m) : Int)) (Int.toNat (↑(ByteArray.size s) : Int)))), (15, AVal.slc false 0 1 0 20 none), (16, AVal.tuple []), (17, AVal.str s2), (18, AVal.bool (ByteArray.toList s2 == ByteArray.toList (ByteArray.mk #[]))), (19, AVal.tuple [])]) ([AObj.rows false 1 (flC 1), AObj.rows true 20 [v0], AObj.rows true 1 [[AVal.str s2]], AObj.rows true 1 [[AVal.int IntKind.i64 0]]]) ([]) (tr 2 ++ ((Owed.use (owed Try.prog 4) 58 [] [AVal.bool (ByteArray.toList s2 == ByteArray.toList (ByteArray.mk #[]))] [AObj.rows false 1 (flC 1), AObj.rows true 20 [v0], AObj.rows true 1 [[AVal.str s2]], AObj.rows true 1 [[AVal.int IntKind.i64 0]]] [AVal.bool (ByteArray.toList s2 == ByteArray.toList (ByteArray.mk #[]))] [] (AVal.tuple []) []) :: (tr 3 ++ ((Owed.use (owed Try.prog 4) 60 [2, 0, 1] [AVal.ptr 2 1 0 0, AVal.slc false 0 1 0 20 none] [AObj.rows false 1 (flC 1), AObj.rows true 20 [u0], AObj.rows true 1 [[AVal.str (ByteArray.extract s (Int.toNat (↑(ByteArray.size m) : Int)) (Int.toNat (↑(ByteArray.size s) : Int)))]], AObj.rows true 1 [[AVal.int IntKind.i64 0]]] [AVal.ptr 0 1 0 0, AVal.slc false 1 1 0 20 none] [AObj.rows true 1 [[AVal.str (ByteArray.extract s (Int.toNat (↑(ByteArray.size m) : Int)) (Int.toNat (↑(ByteArray.size s) : Int)))]], AObj.rows false 1 (flC 2), AObj.rows true 20 [u0]] (AVal.tuple []) [AObj.rows true 1 [[AVal.str s2]], AObj.rows false 1 (flC 2), AObj.rows true 20 [v0]]) :: (tr 2 ++ ((decide (0 ≤ (↑(ByteArray.size m) : Int) ∧ (↑(ByteArray.size m) : Int) ≤ (↑(ByteArray.size s) : Int) ∧ (↑(ByteArray.size s) : Int) ≤ (↑(ByteArray.size s) : Int)) = true) :: (tr 3 ++ ((Owed.use (owed Try.prog 4) 58 [] [AVal.bool true] [AObj.rows false 1 (flC 1), AObj.rows true 20 [u0], AObj.rows true 1 [[AVal.str s]], AObj.rows true 1 [[AVal.int IntKind.i64 0]]] [AVal.bool true] [] (AVal.tuple []) []) :: ((Owed.use (owed Try.prog 4) 59 [] [AVal.str s, AVal.str m] [AObj.rows false 1 (flC 1), AObj.rows true 20 [u0], AObj.rows true 1 [[AVal.str s]], AObj.rows true 1 [[AVal.int IntKind.i64 0]]] [AVal.str s, AVal.str m] [] (AVal.bool true) []) :: (tr 3 ++ []))))))))))) followed (by kernel_rfl) (allP_of (trC 2 ⟨⟨h1, rfl, rfl, rfl⟩, (trC 3 ⟨⟨h2, rfl, rfl, rfl⟩, (trC 2 ⟨h3, (trC 3 ⟨⟨h4, rfl, rfl, rfl⟩, ⟨⟨h5, rfl, rfl, rfl⟩, (trC 3 trivial)⟩⟩)⟩)⟩)⟩)) (keepM 20 [6]) ([0, 1, 2, 3]) (by kernel_rfl) (by kernel_rfl) (by kernel_rfl)

end Go.L12.D
end

section
set_option linter.unusedVariables false
set_option linter.unusedSimpArgs false
set_option maxRecDepth 100000
namespace Go.L12
open Go Go.Abs Go.Proofs

theorem triedC_ok (u0 : List AVal) (k k2 : Nat) (bs bs2 : List (List AVal)) (h : FOk Try.prog 64 [.ptr 0 2 0 0, .slc false 1 1 0 20 none] [.rows false 2 [[.ptr 0 2 0 0, .slc false 2 1 0 k none]], .rows false 1 (flC 3), .trows 5 true 1 bs, .rows true 20 [u0]] (.tuple []) [.rows false 2 [[.ptr 0 2 0 0, .slc false 4 1 0 k2 none]], .rows false 1 (flC 3), .dead, .rows true 20 [u0], .trows 5 true 1 bs2]) :
    FOk Try.prog 53 [.ptr 0 2 0 0, .slc false 1 1 0 20 none] [.rows false 2 [[.ptr 0 2 0 0, .slc false 2 1 0 k none]], .rows false 1 (flC 3), .trows 5 true 1 bs, .rows true 20 [u0]] (.int .i64 0) [.rows false 2 [[.ptr 0 2 0 0, .slc false 4 1 0 k2 none]], .rows false 1 (flC 3), .dead, .rows true 20 [u0], .trows 5 true 1 bs2] :=
  (defer_calls (P := Try.prog) (f := 53) (fn := Try.f53) (c0 := .seq (codeHd (bodyOf Try.f53)) (.seq (.region 1 #[firstOp (codeTail (bodyOf Try.f53))] false) (codeTail (codeTail (bodyOf Try.f53))))) (rest := codeTail (codeTail (bodyOf Try.f53))) (blk := codeTail (bodyOf Try.f57)) (dop := firstOp (codeTail (bodyOf Try.f53))) (rop := firstOp (bodyOf Try.f57)) (gn := Try.f57) (g := 57) (no := 1) (k := 4) (kk := 7) (id := 4) (rid := 1) (rid2 := 0) (ts := #[102, 26]) (tsr := #[]) (xs := [.ptr 0 2 0 0, .slc false 1 1 0 20 none]) (σ := [.rows false 2 [[.ptr 0 2 0 0, .slc false 2 1 0 k none]], .rows false 1 (flC 3), .trows 5 true 1 bs, .rows true 20 [u0]]) (σ1 := [.rows false 2 [[.ptr 0 2 0 0, .slc false 2 1 0 k none]], .rows false 1 (flC 3), .trows 5 true 1 bs, .rows true 20 [u0], .rows true 1 [[.int .i64 0]]]) (y := ([.int .i64 0], tr 3 ++ []))
    rfl Try.func53 (by kernel_rfl) (by kernel_rfl) (by kernel_rfl) (by kernel_rfl) (by kernel_rfl) Try.func57 (by kernel_rfl) (by kernel_rfl) (by kernel_rfl) (by kernel_rfl) (by kernel_rfl) (by kernel_rfl)
    (Pre.one (hTC_1 u0 k bs)) (fun ds => @D.rTC_1 ⟨ds⟩ u0 k k2 bs bs2 h) (by kernel_rfl) (.inl ⟨rfl, rfl⟩) (bTC_1 u0 k2 bs2) (by kernel_rfl) tr3).move [0, 1, 2, 3, 5] (by kernel_rfl) (by kernel_rfl) (by kernel_rfl)
theorem fromC_ok (u0 v0 : List AVal) (s m : ByteArray) (hp : (lB m <+: lB s)) (h : FOk Try.prog 60 [.ptr 0 1 0 0, .slc false 1 1 0 20 none] [.rows true 1 [[.str (s.extract m.size s.size)]], .rows false 1 (flC 2), .rows true 20 [u0]] (.tuple []) [.rows true 1 [[.str ⟨#[]⟩]], .rows false 1 (flC 2), .rows true 20 [v0]]) :
    FOk Try.prog 40 [.str s, .str m, .slc false 0 1 0 20 none] [.rows false 1 (flC 1), .rows true 20 [u0]] (.int .i64 0) [.rows false 1 (flC 1), .rows true 20 [v0]] :=
  have hl := hp.length_le
  have hl : m.size ≤ s.size := by rw [lB_length, lB_length] at hl; exact hl
  (defer_calls (P := Try.prog) (f := 40) (fn := Try.f40) (c0 := .seq (codeHd (bodyOf Try.f40)) (.seq (.region 1 #[firstOp (codeTail (bodyOf Try.f40))] false) (codeTail (codeTail (bodyOf Try.f40))))) (rest := codeTail (codeTail (bodyOf Try.f40))) (blk := codeTail (bodyOf Try.f57)) (dop := firstOp (codeTail (bodyOf Try.f40))) (rop := firstOp (bodyOf Try.f57)) (gn := Try.f57) (g := 57) (no := 140) (k := 6) (kk := 7) (id := 3) (rid := 1) (rid2 := 0) (ts := #[102, 26]) (tsr := #[]) (xs := [.str s, .str m, .slc false 0 1 0 20 none]) (σ := [.rows false 1 (flC 1), .rows true 20 [u0]]) (σ1 := [.rows false 1 (flC 1), .rows true 20 [u0], .rows true 1 [[.str s]], .rows true 1 [[.int .i64 0]]]) (y := ([.int .i64 0], tr 3 ++ []))
    rfl Try.func40 (by kernel_rfl) (by kernel_rfl) (by kernel_rfl) (by kernel_rfl) (by kernel_rfl) Try.func57 (by kernel_rfl) (by kernel_rfl) (by kernel_rfl) (by kernel_rfl) (by kernel_rfl) (by kernel_rfl)
    (Pre.one (hFC_1 u0 s m)) (fun ds => @D.rFC_1 ⟨ds⟩ u0 v0 m s ⟨#[]⟩ true (right_ok _ (by simp)) h (decide_eq_true (by omega)) (right_ok _ rfl) (by have := hasPrefix_ok s m; rw [decide_eq_true hp] at this; exact this)) (by kernel_rfl) (.inl ⟨rfl, rfl⟩) (bFC_1 v0 ⟨#[]⟩) (by kernel_rfl) tr3).move [0, 1] (by kernel_rfl) (by kernel_rfl) (by kernel_rfl)
end Go.L12
end

section
set_option linter.unusedVariables false
set_option linter.unusedSimpArgs false
set_option maxRecDepth 100000
namespace Go.L12
open Go Go.Abs Go.Abs.AVal Go.Abs.AObj Go.Proofs

theorem opC_1 (u0 : List AVal) :
    FOk Try.prog 55 ([ptr 0 20 0 3]) ([rows true 20 [u0]]) (slc false 1 1 0 9 (some 9)) ([rows true 20 [u0], rows false 1 [[iface 100 (ptr 0 20 0 3)], [iface 104 (ptr 0 20 0 4)], [iface 104 (ptr 0 20 0 5)], [iface 104 (ptr 0 20 0 6)], [iface 104 (ptr 0 20 0 7)], [iface 104 (ptr 0 20 0 8)], [iface 104 (ptr 0 20 0 9)], [iface 100 (ptr 0 20 0 10)], [iface 100 (ptr 0 20 0 11)]]]) :=
  (evalF_ok followed Try.func55 (by kernel_rfl) (show evalF Try.prog Try.f55 ([ptr 0 20 0 3]) ([rows true 20 [u0]]) ([]) = .ok (FRes.mk (slc false 1 1 0 9 (some 9)) ([rows true 20 [u0], rows false 1 [[iface 100 (ptr 0 20 0 3)], [iface 104 (ptr 0 20 0 4)], [iface 104 (ptr 0 20 0 5)], [iface 104 (ptr 0 20 0 6)], [iface 104 (ptr 0 20 0 7)], [iface 104 (ptr 0 20 0 8)], [iface 104 (ptr 0 20 0 9)], [iface 100 (ptr 0 20 0 10)], [iface 100 (ptr 0 20 0 11)]]]) (tr 77 ++ [])) by kernel_rfl) (allP_of (trC 77 trivial))).move ([0, 1]) (by kernel_rfl) (by kernel_rfl) (by kernel_rfl)

theorem wsC_ok : FOk Try.prog 52 [.ptr 0 2 0 0, .str ⟨#[67]⟩] [.trows 94 false 2 [[.nilp, .fsl true 0 [] (some 0)]]] (.tuple [.int .i64 1, .nili]) [.rows false 2 [[.ptr 0 2 0 0, .slc false 1 1 0 1 none]], .trows 5 true 1 [brow 67]] := ws0_1 ⟨#[67]⟩ (by decide)
end Go.L12
end

section
set_option linter.unusedVariables false
set_option linter.unusedSimpArgs false
set_option maxRecDepth 100000
namespace Go.L12
open Go Go.Abs Go.Abs.AVal Go.Abs.AObj Go.Proofs

theorem fldC_1 (u0 : List AVal) :
    FOk Try.prog 34 ([ptr 0 20 0 0]) ([rows true 20 [u0]]) (slc false 1 1 0 20 none) ([rows true 20 [u0], rows false 1 (flC 0)]) :=
  (evalF_ok followed Try.func34 (by kernel_rfl) (show evalF Try.prog Try.f34 ([ptr 0 20 0 0]) ([rows true 20 [u0]]) ([Dec.use [0] [ptr 0 20 0 3] [rows true 20 [u0]] (slc false 1 1 0 9 (some 9)) [rows true 20 [u0], rows false 1 [[iface 100 (ptr 0 20 0 3)], [iface 104 (ptr 0 20 0 4)], [iface 104 (ptr 0 20 0 5)], [iface 104 (ptr 0 20 0 6)], [iface 104 (ptr 0 20 0 7)], [iface 104 (ptr 0 20 0 8)], [iface 104 (ptr 0 20 0 9)], [iface 100 (ptr 0 20 0 10)], [iface 100 (ptr 0 20 0 11)]]]]) = .ok (FRes.mk (slc false 5 1 0 20 none) ([rows true 20 [u0], dead, rows false 1 [[iface 100 (ptr 0 20 0 3)], [iface 104 (ptr 0 20 0 4)], [iface 104 (ptr 0 20 0 5)], [iface 104 (ptr 0 20 0 6)], [iface 104 (ptr 0 20 0 7)], [iface 104 (ptr 0 20 0 8)], [iface 104 (ptr 0 20 0 9)], [iface 100 (ptr 0 20 0 10)], [iface 100 (ptr 0 20 0 11)]], dead, rows false 1 [[iface 104 (ptr 0 20 0 19)]], rows false 1 (flC 0)]) (tr 27 ++ ((oU 1 55 [0] [ptr 0 20 0 3] [rows true 20 [u0], rows false 1 [[iface 100 (ptr 0 20 0 0)], [iface 100 (ptr 0 20 0 1)], [iface 100 (ptr 0 20 0 2)], [iface 100 (ptr 0 20 0 12)], [iface 100 (ptr 0 20 0 13)], [iface 100 (ptr 0 20 0 14)], [iface 100 (ptr 0 20 0 15)], [iface 100 (ptr 0 20 0 16)], [iface 101 (ptr 0 20 0 17)], [iface 102 (ptr 0 20 0 18)]]] [ptr 0 20 0 3] [rows true 20 [u0]] (slc false 1 1 0 9 (some 9)) [rows true 20 [u0], rows false 1 [[iface 100 (ptr 0 20 0 3)], [iface 104 (ptr 0 20 0 4)], [iface 104 (ptr 0 20 0 5)], [iface 104 (ptr 0 20 0 6)], [iface 104 (ptr 0 20 0 7)], [iface 104 (ptr 0 20 0 8)], [iface 104 (ptr 0 20 0 9)], [iface 100 (ptr 0 20 0 10)], [iface 100 (ptr 0 20 0 11)]]]) :: (tr 98 ++ [])))) by kernel_rfl) (allP_of (trC 27 ⟨⟨(@Go.L12.opC_1 (u0)), rfl, rfl, rfl⟩, (trC 98 trivial)⟩))).move ([0, 5]) (by kernel_rfl) (by kernel_rfl) (by kernel_rfl)

theorem putC_1 (u0 : List AVal) (l : List UInt8)
    (h1 : FOk Try.prog 54 [ptr 0 2 0 0] [rows false 2 [[ptr 0 2 0 0, slc false 1 1 0 (List.length l) none]], trows 5 true 1 (rowsL l)] (str (bS l)) [rows false 2 [[ptr 0 2 0 0, slc false 1 1 0 (List.length l) none]], dead])
    (h2 : FOk Try.prog 53 [ptr 0 2 0 0, slc false 1 1 0 20 none] [rows false 2 [[ptr 0 2 0 0, slc false 2 1 0 1 none]], rows false 1 (flC 3), trows 5 true 1 [[int IntKind.u8 67]], rows true 20 [u0]] (iI 0) [rows false 2 [[ptr 0 2 0 0, slc false 4 1 0 (List.length l) none]], rows false 1 (flC 3), dead, rows true 20 [u0], trows 5 true 1 (rowsL l)]) :
    FOk Try.prog 33 ([str (ByteArray.mk #[67]), slc false 0 1 0 20 none]) ([rows false 1 (flC 1), rows true 20 [u0]]) (tuple [str (bS l), iI 0]) ([rows false 1 (flC 1), rows true 20 [u0]]) :=
  (evalF_ok followed Try.func33 (by kernel_rfl) (show evalF Try.prog Try.f33 ([str (ByteArray.mk #[67]), slc false 0 1 0 20 none]) ([rows false 1 (flC 1), rows true 20 [u0]]) ([Dec.use [2] [ptr 0 2 0 0, str (ByteArray.mk #[67])] [trows 94 false 2 [[nilp, fsl true 0 [] (some 0)]]] (tuple [iI 1, nili]) [rows false 2 [[ptr 0 2 0 0, slc false 1 1 0 1 none]], trows 5 true 1 [[int IntKind.u8 67]]], Dec.use [2, 0, 3, 1] [ptr 0 2 0 0, slc false 1 1 0 20 none] [rows false 2 [[ptr 0 2 0 0, slc false 2 1 0 1 none]], rows false 1 (flC 3), trows 5 true 1 [[int IntKind.u8 67]], rows true 20 [u0]] (iI 0) [rows false 2 [[ptr 0 2 0 0, slc false 4 1 0 (List.length l) none]], rows false 1 (flC 3), dead, rows true 20 [u0], trows 5 true 1 (rowsL l)], Dec.br false, Dec.use [2, 4] [ptr 0 2 0 0] [rows false 2 [[ptr 0 2 0 0, slc false 1 1 0 (List.length l) none]], trows 5 true 1 (rowsL l)] (str (bS l)) [rows false 2 [[ptr 0 2 0 0, slc false 1 1 0 (List.length l) none]], dead]]) = .ok (FRes.mk (tuple [str (bS l), iI 0]) ([rows false 1 (flC 1), rows true 20 [u0], rows false 2 [[ptr 2 2 0 0, slc false 4 1 0 (List.length l) none]], dead, dead]) ((oU 2 54 [2, 4] [ptr 2 2 0 0] [rows false 1 (flC 1), rows true 20 [u0], rows false 2 [[ptr 2 2 0 0, slc false 4 1 0 (List.length l) none]], dead, trows 5 true 1 (rowsL l)] [ptr 0 2 0 0] [rows false 2 [[ptr 0 2 0 0, slc false 1 1 0 (List.length l) none]], trows 5 true 1 (rowsL l)] (str (bS l)) [rows false 2 [[ptr 0 2 0 0, slc false 1 1 0 (List.length l) none]], dead]) :: ((false = false) :: ((oU 2 53 [2, 0, 3, 1] [ptr 2 2 0 0, slc false 0 1 0 20 none] [rows false 1 (flC 1), rows true 20 [u0], rows false 2 [[ptr 2 2 0 0, slc false 3 1 0 1 none]], trows 5 true 1 [[int IntKind.u8 67]]] [ptr 0 2 0 0, slc false 1 1 0 20 none] [rows false 2 [[ptr 0 2 0 0, slc false 2 1 0 1 none]], rows false 1 (flC 3), trows 5 true 1 [[int IntKind.u8 67]], rows true 20 [u0]] (iI 0) [rows false 2 [[ptr 0 2 0 0, slc false 4 1 0 (List.length l) none]], rows false 1 (flC 3), dead, rows true 20 [u0], trows 5 true 1 (rowsL l)]) :: ((oU 2 52 [2] [ptr 2 2 0 0, str (ByteArray.mk #[67])] [rows false 1 (flC 1), rows true 20 [u0], trows 94 false 2 [[nilp, fsl true 0 [] (some 0)]]] [ptr 0 2 0 0, str (ByteArray.mk #[67])] [trows 94 false 2 [[nilp, fsl true 0 [] (some 0)]]] (tuple [iI 1, nili]) [rows false 2 [[ptr 0 2 0 0, slc false 1 1 0 1 none]], trows 5 true 1 [[int IntKind.u8 67]]]) :: []))))) by kernel_rfl) (allP_of ⟨⟨h1, rfl, rfl, rfl⟩, ⟨rfl, ⟨⟨h2, rfl, rfl, rfl⟩, ⟨⟨(@Go.L12.wsC_ok), rfl, rfl, rfl⟩, trivial⟩⟩⟩⟩)).move ([0, 1]) (by kernel_rfl) (by kernel_rfl) (by kernel_rfl)

def putC_T (u0 : List AVal) (l : List UInt8) (Q : AVal → AState → Prop) : Prop := (FOk Try.prog 53 [ptr 0 2 0 0, slc false 1 1 0 20 none] [rows false 2 [[ptr 0 2 0 0, slc false 2 1 0 1 none]], rows false 1 (flC 3), trows 5 true 1 [[int IntKind.u8 67]], rows true 20 [u0]] (iI 0) [rows false 2 [[ptr 0 2 0 0, slc false 4 1 0 (List.length l) none]], rows false 1 (flC 3), dead, rows true 20 [u0], trows 5 true 1 (rowsL l)]) ∧ (FOk Try.prog 54 [ptr 0 2 0 0] [rows false 2 [[ptr 0 2 0 0, slc false 1 1 0 (List.length l) none]], trows 5 true 1 (rowsL l)] (str (bS l)) [rows false 2 [[ptr 0 2 0 0, slc false 1 1 0 (List.length l) none]], dead]) ∧ Q (tuple [str (bS l), iI 0]) ([rows false 1 (flC 1), rows true 20 [u0]])
theorem putC_wp (u0 : List AVal) (l : List UInt8) {Q : AVal → AState → Prop} (h : putC_T u0 l Q) : ∃ r σ', FOk Try.prog 33 ([str (ByteArray.mk #[67]), slc false 0 1 0 20 none]) ([rows false 1 (flC 1), rows true 20 [u0]]) r σ' ∧ Q r σ' :=
  ⟨_, _, putC_1 u0 l (h.2.1) (h.1), h.2.2⟩


end Go.L12
end

section
set_option linter.unusedVariables false
set_option linter.unusedSimpArgs false
set_option maxRecDepth 100000
namespace Go.L12
open Go Go.Abs Go.Proofs

theorem put33C_ok (u0 : List AVal) (hk : kC u0) (b : List UInt8) (hb : seqO (fpC u0) 20 0 = some b) :
    FOk Try.prog 33 [.str ⟨#[67]⟩, .slc false 0 1 0 20 none] [.rows false 1 (flC 1), .rows true 20 [u0]] (.tuple [.str (bS (67 :: b)), .int .i64 0]) [.rows false 1 (flC 1), .rows true 20 [u0]] := by
  have hlen := seqO_len (fun i b h => putF_len h) 20 0 b hb
  have hp := putsC_ok u0 hk [67] b (by simp) hb
  rw [show rowsL [67] = [brow 67] from by kernel_rfl] at hp
  have ht := triedC_ok u0 1 ([67] ++ b).length [brow 67] (rowsL ([67] ++ b)) hp
  refine FOk.wp (putC_wp u0 (67 :: b) ?_)
  unfold putC_T
  exact ⟨ht, bst_ok (67 :: b) _ (List.length_map _).symm (by simp) (by simp; omega), rfl, rfl⟩
end Go.L12
end

section
set_option linter.unusedVariables false
set_option linter.unusedSimpArgs false
set_option maxRecDepth 100000
namespace Go.L12
open Go Go.Abs Go.Abs.AVal Go.Abs.AObj Go.Proofs

theorem PutC_1 (c0 c1 c2 c3 : Int) (c4 c5 c6 c7 c8 c9 : ByteArray) (c10 c11 c12 c13 c14 c15 c16 : Int) (c17 : Bool) (c18 : Int) (c19 s : ByteArray) (e : Int)
    (h1 : FOk Try.prog 33 [str (ByteArray.mk #[67]), slc false 0 1 0 20 none] [rows false 1 (flC 1), rows true 20 [(rC c0 c1 c2 c3 c4 c5 c6 c7 c8 c9 c10 c11 c12 c13 c14 c15 c16 c17 c18 c19)]] (tuple [str s, iI e]) [rows false 1 (flC 1), rows true 20 [(rC c0 c1 c2 c3 c4 c5 c6 c7 c8 c9 c10 c11 c12 c13 c14 c15 c16 c17 c18 c19)]]) :
    FOk Try.prog 15 ([agg (rC c0 c1 c2 c3 c4 c5 c6 c7 c8 c9 c10 c11 c12 c13 c14 c15 c16 c17 c18 c19)]) ([]) (tuple [str s, iI e]) ([]) :=
  (evalF_ok followed Try.func15 (by kernel_rfl) (show evalF Try.prog Try.f15 ([agg (rC c0 c1 c2 c3 c4 c5 c6 c7 c8 c9 c10 c11 c12 c13 c14 c15 c16 c17 c18 c19)]) ([]) ([Dec.use [0] [ptr 0 20 0 0] [rows true 20 [(rC c0 c1 c2 c3 c4 c5 c6 c7 c8 c9 c10 c11 c12 c13 c14 c15 c16 c17 c18 c19)]] (slc false 1 1 0 20 none) [rows true 20 [(rC c0 c1 c2 c3 c4 c5 c6 c7 c8 c9 c10 c11 c12 c13 c14 c15 c16 c17 c18 c19)], rows false 1 (flC 0)], Dec.use [1, 0] [str (ByteArray.mk #[67]), slc false 0 1 0 20 none] [rows false 1 (flC 1), rows true 20 [(rC c0 c1 c2 c3 c4 c5 c6 c7 c8 c9 c10 c11 c12 c13 c14 c15 c16 c17 c18 c19)]] (tuple [str s, iI e]) [rows false 1 (flC 1), rows true 20 [(rC c0 c1 c2 c3 c4 c5 c6 c7 c8 c9 c10 c11 c12 c13 c14 c15 c16 c17 c18 c19)]]]) = .ok (FRes.mk (tuple [str s, iI e]) ([rows true 20 [(rC c0 c1 c2 c3 c4 c5 c6 c7 c8 c9 c10 c11 c12 c13 c14 c15 c16 c17 c18 c19)], rows false 1 (flC 0)]) ((oU 0 33 [1, 0] [str (ByteArray.mk #[67]), slc false 1 1 0 20 none] [rows true 20 [(rC c0 c1 c2 c3 c4 c5 c6 c7 c8 c9 c10 c11 c12 c13 c14 c15 c16 c17 c18 c19)], rows false 1 (flC 0)] [str (ByteArray.mk #[67]), slc false 0 1 0 20 none] [rows false 1 (flC 1), rows true 20 [(rC c0 c1 c2 c3 c4 c5 c6 c7 c8 c9 c10 c11 c12 c13 c14 c15 c16 c17 c18 c19)]] (tuple [str s, iI e]) [rows false 1 (flC 1), rows true 20 [(rC c0 c1 c2 c3 c4 c5 c6 c7 c8 c9 c10 c11 c12 c13 c14 c15 c16 c17 c18 c19)]]) :: ((oU 0 34 [0] [ptr 0 20 0 0] [rows true 20 [(rC c0 c1 c2 c3 c4 c5 c6 c7 c8 c9 c10 c11 c12 c13 c14 c15 c16 c17 c18 c19)]] [ptr 0 20 0 0] [rows true 20 [(rC c0 c1 c2 c3 c4 c5 c6 c7 c8 c9 c10 c11 c12 c13 c14 c15 c16 c17 c18 c19)]] (slc false 1 1 0 20 none) [rows true 20 [(rC c0 c1 c2 c3 c4 c5 c6 c7 c8 c9 c10 c11 c12 c13 c14 c15 c16 c17 c18 c19)], rows false 1 (flC 0)]) :: []))) by kernel_rfl) (allP_of ⟨⟨h1, rfl, rfl, rfl⟩, ⟨⟨(@Go.L12.fldC_1 ((rC c0 c1 c2 c3 c4 c5 c6 c7 c8 c9 c10 c11 c12 c13 c14 c15 c16 c17 c18 c19))), rfl, rfl, rfl⟩, trivial⟩⟩)).move ([]) (by kernel_rfl) (by kernel_rfl) (by kernel_rfl)

def PutC_T (c0 c1 c2 c3 : Int) (c4 c5 c6 c7 c8 c9 : ByteArray) (c10 c11 c12 c13 c14 c15 c16 : Int) (c17 : Bool) (c18 : Int) (c19 s : ByteArray) (e : Int) (Q : AVal → AState → Prop) : Prop := (FOk Try.prog 33 [str (ByteArray.mk #[67]), slc false 0 1 0 20 none] [rows false 1 (flC 1), rows true 20 [(rC c0 c1 c2 c3 c4 c5 c6 c7 c8 c9 c10 c11 c12 c13 c14 c15 c16 c17 c18 c19)]] (tuple [str s, iI e]) [rows false 1 (flC 1), rows true 20 [(rC c0 c1 c2 c3 c4 c5 c6 c7 c8 c9 c10 c11 c12 c13 c14 c15 c16 c17 c18 c19)]]) ∧ Q (tuple [str s, iI e]) ([])
theorem PutC_wp (c0 c1 c2 c3 : Int) (c4 c5 c6 c7 c8 c9 : ByteArray) (c10 c11 c12 c13 c14 c15 c16 : Int) (c17 : Bool) (c18 : Int) (c19 s : ByteArray) (e : Int) {Q : AVal → AState → Prop} (h : PutC_T c0 c1 c2 c3 c4 c5 c6 c7 c8 c9 c10 c11 c12 c13 c14 c15 c16 c17 c18 c19 s e Q) : ∃ r σ', FOk Try.prog 15 ([agg (rC c0 c1 c2 c3 c4 c5 c6 c7 c8 c9 c10 c11 c12 c13 c14 c15 c16 c17 c18 c19)]) ([]) r σ' ∧ Q r σ' :=
  ⟨_, _, PutC_1 c0 c1 c2 c3 c4 c5 c6 c7 c8 c9 c10 c11 c12 c13 c14 c15 c16 c17 c18 c19 s e (h.1), h.2⟩


theorem FromC_1 (c0 c1 c2 c3 : Int) (c4 c5 c6 c7 c8 c9 : ByteArray) (c10 c11 c12 c13 c14 c15 c16 : Int) (c17 : Bool) (c18 : Int) (c19 s : ByteArray)
    (h1 : FOk Try.prog 40 [str s, str (ByteArray.mk #[67]), slc false 0 1 0 20 none] [rows false 1 (flC 1), rows true 20 [rC0t]] (iI 0) [rows false 1 (flC 1), rows true 20 [(rC c0 c1 c2 c3 c4 c5 c6 c7 c8 c9 c10 c11 c12 c13 c14 c15 c16 c17 c18 c19)]]) :
    FOk Try.prog 17 ([str s]) ([]) (tuple [agg (rC c0 c1 c2 c3 c4 c5 c6 c7 c8 c9 c10 c11 c12 c13 c14 c15 c16 c17 c18 c19), iI 0]) ([]) :=
  (evalF_ok followed Try.func17 (by kernel_rfl) (show evalF Try.prog Try.f17 ([str s]) ([]) ([Dec.use [1] [ptr 0 20 0 0] [rows true 20 [rC0t]] (slc false 1 1 0 20 none) [rows true 20 [rC0t], rows false 1 (flC 0)], Dec.use [2, 1] [str s, str (ByteArray.mk #[67]), slc false 0 1 0 20 none] [rows false 1 (flC 1), rows true 20 [rC0t]] (iI 0) [rows false 1 (flC 1), rows true 20 [(rC c0 c1 c2 c3 c4 c5 c6 c7 c8 c9 c10 c11 c12 c13 c14 c15 c16 c17 c18 c19)]], Dec.br false]) = .ok (FRes.mk (tuple [agg (rC c0 c1 c2 c3 c4 c5 c6 c7 c8 c9 c10 c11 c12 c13 c14 c15 c16 c17 c18 c19), iI 0]) ([rows true 20 [(rC c0 c1 c2 c3 c4 c5 c6 c7 c8 c9 c10 c11 c12 c13 c14 c15 c16 c17 c18 c19)], rows true 20 [(rC c0 c1 c2 c3 c4 c5 c6 c7 c8 c9 c10 c11 c12 c13 c14 c15 c16 c17 c18 c19)], rows false 1 (flC 1)]) (tr 8 ++ ((false = false) :: ((oU 0 40 [2, 1] [str s, str (ByteArray.mk #[67]), slc false 2 1 0 20 none] [rows true 20 [rC0t], rows true 20 [rC0t], rows false 1 (flC 1)] [str s, str (ByteArray.mk #[67]), slc false 0 1 0 20 none] [rows false 1 (flC 1), rows true 20 [rC0t]] (iI 0) [rows false 1 (flC 1), rows true 20 [(rC c0 c1 c2 c3 c4 c5 c6 c7 c8 c9 c10 c11 c12 c13 c14 c15 c16 c17 c18 c19)]]) :: ((oU 0 34 [1] [ptr 1 20 0 0] [rows true 20 [rC0t], rows true 20 [rC0t]] [ptr 0 20 0 0] [rows true 20 [rC0t]] (slc false 1 1 0 20 none) [rows true 20 [rC0t], rows false 1 (flC 0)]) :: []))))) by kernel_rfl) (allP_of (trC 8 ⟨rfl, ⟨⟨h1, rfl, rfl, rfl⟩, ⟨⟨(@Go.L12.fldC_1 (rC0t)), rfl, rfl, rfl⟩, trivial⟩⟩⟩))).move ([]) (by kernel_rfl) (by kernel_rfl) (by kernel_rfl)

def FromC_T (c0 c1 c2 c3 : Int) (c4 c5 c6 c7 c8 c9 : ByteArray) (c10 c11 c12 c13 c14 c15 c16 : Int) (c17 : Bool) (c18 : Int) (c19 s : ByteArray) (Q : AVal → AState → Prop) : Prop := (FOk Try.prog 40 [str s, str (ByteArray.mk #[67]), slc false 0 1 0 20 none] [rows false 1 (flC 1), rows true 20 [rC0t]] (iI 0) [rows false 1 (flC 1), rows true 20 [(rC c0 c1 c2 c3 c4 c5 c6 c7 c8 c9 c10 c11 c12 c13 c14 c15 c16 c17 c18 c19)]]) ∧ Q (tuple [agg (rC c0 c1 c2 c3 c4 c5 c6 c7 c8 c9 c10 c11 c12 c13 c14 c15 c16 c17 c18 c19), iI 0]) ([])
theorem FromC_wp (c0 c1 c2 c3 : Int) (c4 c5 c6 c7 c8 c9 : ByteArray) (c10 c11 c12 c13 c14 c15 c16 : Int) (c17 : Bool) (c18 : Int) (c19 s : ByteArray) {Q : AVal → AState → Prop} (h : FromC_T c0 c1 c2 c3 c4 c5 c6 c7 c8 c9 c10 c11 c12 c13 c14 c15 c16 c17 c18 c19 s Q) : ∃ r σ', FOk Try.prog 17 ([str s]) ([]) r σ' ∧ Q r σ' :=
  ⟨_, _, FromC_1 c0 c1 c2 c3 c4 c5 c6 c7 c8 c9 c10 c11 c12 c13 c14 c15 c16 c17 c18 c19 s (h.1), h.2⟩


end Go.L12
end

section
set_option linter.unusedVariables false
set_option linter.unusedSimpArgs false
set_option maxRecDepth 100000
namespace Go.L12
open Go Go.Abs Go.Proofs

def TC : List Nat := [100, 100, 100, 100, 100, 100, 100, 100, 101, 102, 100, 104, 104, 104, 104, 104, 104, 100, 100, 104]
abbrev vsC (c0 c1 c2 c3 : Int) (c4 c5 c6 c7 c8 c9 : ByteArray) (c10 c11 c12 c13 c14 c15 c16 : Int) (c17 : Bool) (c18 : Int) (c19 : ByteArray) : List AVal := [.int .i64 c0, .int .i64 c1, .int .i64 c2, .int .i64 c12, .int .i64 c13, .int .i64 c14, .int .i64 c15, .int .i64 c16, .bool c17, .int .i64 c18, .int .i64 c3, .str c4, .str c5, .str c6, .str c7, .str c8, .str c9, .int .i64 c10, .int .i64 c11, .str c19]
abbrev clC0 (c0 c1 c2 c3 : Int) (c4 c5 c6 c7 c8 c9 : ByteArray) (c10 c11 c12 c13 c14 c15 c16 : Int) (c17 : Bool) (c18 : Int) (c19 : ByteArray) : List AVal := (rC c0 c1 c2 c3 c4 c5 c6 c7 c8 c9 c10 c11 c12 c13 c14 c15 c16 c17 c18 c19)
def bdC (c0 c1 c2 c3 c10 c11 c12 c13 c14 c15 c16 c18 : Int) : Prop := (-9223372036854775808 ≤ c0 ∧ c0 < 9223372036854775808) ∧ (-9223372036854775808 ≤ c1 ∧ c1 < 9223372036854775808) ∧ (-9223372036854775808 ≤ c2 ∧ c2 < 9223372036854775808) ∧ (-9223372036854775808 ≤ c3 ∧ c3 < 9223372036854775808) ∧ (-9223372036854775808 ≤ c10 ∧ c10 < 9223372036854775808) ∧ (-9223372036854775808 ≤ c11 ∧ c11 < 9223372036854775808) ∧ (-9223372036854775808 ≤ c12 ∧ c12 < 9223372036854775808) ∧ (-9223372036854775808 ≤ c13 ∧ c13 < 9223372036854775808) ∧ (-9223372036854775808 ≤ c14 ∧ c14 < 9223372036854775808) ∧ (-9223372036854775808 ≤ c15 ∧ c15 < 9223372036854775808) ∧ (-9223372036854775808 ≤ c16 ∧ c16 < 9223372036854775808) ∧ (-9223372036854775808 ≤ c18 ∧ c18 < 9223372036854775808)
theorem allFC (c0 c1 c2 c3 : Int) (c4 c5 c6 c7 c8 c9 : ByteArray) (c10 c11 c12 c13 c14 c15 c16 : Int) (c17 : Bool) (c18 : Int) (c19 : ByteArray) : allF TC (vsC c0 c1 c2 c3 c4 c5 c6 c7 c8 c9 c10 c11 c12 c13 c14 c15 c16 c17 c18 c19) := ⟨⟨_, rfl⟩, ⟨_, rfl⟩, ⟨_, rfl⟩, ⟨_, rfl⟩, ⟨_, rfl⟩, ⟨_, rfl⟩, ⟨_, rfl⟩, ⟨_, rfl⟩, ⟨_, rfl⟩, ⟨_, rfl⟩, ⟨_, rfl⟩, ⟨_, rfl⟩, ⟨_, rfl⟩, ⟨_, rfl⟩, ⟨_, rfl⟩, ⟨_, rfl⟩, ⟨_, rfl⟩, ⟨_, rfl⟩, ⟨_, rfl⟩, ⟨_, rfl⟩, trivial⟩
theorem seqO_C (c0 c1 c2 c3 : Int) (c4 c5 c6 c7 c8 c9 : ByteArray) (c10 c11 c12 c13 c14 c15 c16 : Int) (c17 : Bool) (c18 : Int) (c19 : ByteArray) : seqO (fpC (clC0 c0 c1 c2 c3 c4 c5 c6 c7 c8 c9 c10 c11 c12 c13 c14 c15 c16 c17 c18 c19)) 20 0 = putAll TC (vsC c0 c1 c2 c3 c4 c5 c6 c7 c8 c9 c10 c11 c12 c13 c14 c15 c16 c17 c18 c19) := by
  rw [seqO_all (fun i => (FC.getD i (0, 0, 0)).1) (fun i => (objC (clC0 c0 c1 c2 c3 c4 c5 c6 c7 c8 c9 c10 c11 c12 c13 c14 c15 c16 c17 c18 c19) (FC.getD i (0, 0, 0)).2.1).getD (FC.getD i (0, 0, 0)).2.2 .any) (fpC (clC0 c0 c1 c2 c3 c4 c5 c6 c7 c8 c9 c10 c11 c12 c13 c14 c15 c16 c17 c18 c19)) (fun i => rfl)]
  rfl
theorem kkC (c0 c1 c2 c3 : Int) (c4 c5 c6 c7 c8 c9 : ByteArray) (c10 c11 c12 c13 c14 c15 c16 : Int) (c17 : Bool) (c18 : Int) (c19 : ByteArray) (hb : bdC c0 c1 c2 c3 c10 c11 c12 c13 c14 c15 c16 c18) : kC (clC0 c0 c1 c2 c3 c4 c5 c6 c7 c8 c9 c10 c11 c12 c13 c14 c15 c16 c17 c18 c19)
  | 0, _ => ⟨_, rfl, hb.1⟩
  | 1, _ => ⟨_, rfl, hb.2.1⟩
  | 2, _ => ⟨_, rfl, hb.2.2.1⟩
  | 3, _ => ⟨_, rfl, hb.2.2.2.2.2.2.1⟩
  | 4, _ => ⟨_, rfl, hb.2.2.2.2.2.2.2.1⟩
  | 5, _ => ⟨_, rfl, hb.2.2.2.2.2.2.2.2.1⟩
  | 6, _ => ⟨_, rfl, hb.2.2.2.2.2.2.2.2.2.1⟩
  | 7, _ => ⟨_, rfl, hb.2.2.2.2.2.2.2.2.2.2.1⟩
  | 8, _ => ⟨_, rfl⟩
  | 9, _ => ⟨_, rfl, hb.2.2.2.2.2.2.2.2.2.2.2⟩
  | 10, _ => ⟨_, rfl, hb.2.2.2.1⟩
  | 11, _ => ⟨_, rfl⟩
  | 12, _ => ⟨_, rfl⟩
  | 13, _ => ⟨_, rfl⟩
  | 14, _ => ⟨_, rfl⟩
  | 15, _ => ⟨_, rfl⟩
  | 16, _ => ⟨_, rfl⟩
  | 17, _ => ⟨_, rfl, hb.2.2.2.2.1⟩
  | 18, _ => ⟨_, rfl, hb.2.2.2.2.2.1⟩
  | 19, _ => ⟨_, rfl⟩
  | n + 20, h => absurd h (by omega)
theorem putC_ok (c0 c1 c2 c3 : Int) (c4 c5 c6 c7 c8 c9 : ByteArray) (c10 c11 c12 c13 c14 c15 c16 : Int) (c17 : Bool) (c18 : Int) (c19 : ByteArray) (hb : bdC c0 c1 c2 c3 c10 c11 c12 c13 c14 c15 c16 c18) (b : List UInt8) (h : putAll TC (vsC c0 c1 c2 c3 c4 c5 c6 c7 c8 c9 c10 c11 c12 c13 c14 c15 c16 c17 c18 c19) = some b) : FOk Try.prog 15 [.agg (clC0 c0 c1 c2 c3 c4 c5 c6 c7 c8 c9 c10 c11 c12 c13 c14 c15 c16 c17 c18 c19)] [] (.tuple [.str (bS (67 :: b)), .int .i64 0]) [] := by
  refine FOk.wp (PutC_wp c0 c1 c2 c3 c4 c5 c6 c7 c8 c9 c10 c11 c12 c13 c14 c15 c16 c17 c18 c19 (bS (67 :: b)) 0 ?_)
  unfold PutC_T
  exact ⟨put33C_ok (clC0 c0 c1 c2 c3 c4 c5 c6 c7 c8 c9 c10 c11 c12 c13 c14 c15 c16 c17 c18 c19) (kkC c0 c1 c2 c3 c4 c5 c6 c7 c8 c9 c10 c11 c12 c13 c14 c15 c16 c17 c18 c19 hb) b (by rw [seqO_C]; exact h), rfl, rfl⟩
theorem osC (c0 c1 c2 c3 : Int) (c4 c5 c6 c7 c8 c9 : ByteArray) (c10 c11 c12 c13 c14 c15 c16 : Int) (c17 : Bool) (c18 : Int) (c19 : ByteArray) : putAll TC (vsC c0 c1 c2 c3 c4 c5 c6 c7 c8 c9 c10 c11 c12 c13 c14 c15 c16 c17 c18 c19) = seqL [pI c0, pI c1, pI c2, pI c12, pI c13, pI c14, pI c15, pI c16, pB c17, pI c18, pI c3, pS c4, pS c5, pS c6, pS c7, pS c8, pS c9, pI c10, pI c11, pS c19] := by
  rw [putAll_L]
  rfl
def zeroC : List AVal := [.int .i64 0, .int .i64 0, .int .i64 0, .int .i64 0, .str ⟨#[]⟩, .str ⟨#[]⟩, .str ⟨#[]⟩, .str ⟨#[]⟩, .str ⟨#[]⟩, .str ⟨#[]⟩, .int .i64 0, .int .i64 0, .int .i64 0, .int .i64 0, .int .i64 0, .int .i64 0, .int .i64 0, .tt false, .int .i64 0, .str ⟨#[]⟩]
def setC (i : Nat) (u : List AVal) (v : AVal) : List AVal := u.set (FC.getD i (0, 0, 0)).2.2 v
theorem seqG_C (s : ByteArray) : seqG gtC 20 0 zeroC s = (takeAll TC s).map fun y => (setAll setC 0 zeroC y.1, y.2) := by
  rw [seqG_all (fun i => (FC.getD i (0, 0, 0)).1) setC gtC (fun i u s => rfl)]
  rfl
theorem set_C (c0 c1 c2 c3 : Int) (c4 c5 c6 c7 c8 c9 : ByteArray) (c10 c11 c12 c13 c14 c15 c16 : Int) (c17 : Bool) (c18 : Int) (c19 : ByteArray) : setAll setC 0 zeroC (vsC c0 c1 c2 c3 c4 c5 c6 c7 c8 c9 c10 c11 c12 c13 c14 c15 c16 c17 c18 c19) = clC0 c0 c1 c2 c3 c4 c5 c6 c7 c8 c9 c10 c11 c12 c13 c14 c15 c16 c17 c18 c19 := by kernel_rfl
theorem preC {s s' : ByteArray} (h : lB s = UInt8.ofNat 67 :: lB s') : (lB (ByteArray.mk #[67]) <+: lB s) ∧ s.extract (ByteArray.mk #[67]).size s.size = s' := by
  constructor
  · exact ⟨lB s', h.symm⟩
  · have e := mk_of h
    unfold mk at e
    split at e
    · exact congrArg Prod.fst e
    · have := congrArg Prod.snd e; cases this
theorem fromC_is {s : ByteArray} (c0 : Int) (c1 : Int) (c2 : Int) (c3 : Int) (c4 : ByteArray) (c5 : ByteArray) (c6 : ByteArray) (c7 : ByteArray) (c8 : ByteArray) (c9 : ByteArray) (c10 : Int) (c11 : Int) (c12 : Int) (c13 : Int) (c14 : Int) (c15 : Int) (c16 : Int) (c17 : Bool) (c18 : Int) (c19 : ByteArray) (h : Is 67 TC s (vsC c0 c1 c2 c3 c4 c5 c6 c7 c8 c9 c10 c11 c12 c13 c14 c15 c16 c17 c18 c19)) : FOk Try.prog 17 [.str s] [] (.tuple [.agg (clC0 c0 c1 c2 c3 c4 c5 c6 c7 c8 c9 c10 c11 c12 c13 c14 c15 c16 c17 c18 c19), .int .i64 0]) [] := by
  obtain ⟨s', h1, h2⟩ := h
  obtain ⟨p1, p2⟩ := preC h1
  refine FOk.wp (FromC_wp c0 c1 c2 c3 c4 c5 c6 c7 c8 c9 c10 c11 c12 c13 c14 c15 c16 c17 c18 c19 s ?_)
  unfold FromC_T
  have ht := takesC_ok zeroC s' (clC0 c0 c1 c2 c3 c4 c5 c6 c7 c8 c9 c10 c11 c12 c13 c14 c15 c16 c17 c18 c19, ⟨#[]⟩) (by rw [seqG_C, h2]; exact congrArg (fun x => some (x, (⟨#[]⟩ : ByteArray))) (set_C c0 c1 c2 c3 c4 c5 c6 c7 c8 c9 c10 c11 c12 c13 c14 c15 c16 c17 c18 c19))
  rw [← p2] at ht
  exact ⟨fromC_ok [.int .i64 0, .int .i64 0, .int .i64 0, .int .i64 0, .str ⟨#[]⟩, .str ⟨#[]⟩, .str ⟨#[]⟩, .str ⟨#[]⟩, .str ⟨#[]⟩, .str ⟨#[]⟩, .int .i64 0, .int .i64 0, .int .i64 0, .int .i64 0, .int .i64 0, .int .i64 0, .int .i64 0, .tt false, .int .i64 0, .str ⟨#[]⟩] (clC0 c0 c1 c2 c3 c4 c5 c6 c7 c8 c9 c10 c11 c12 c13 c14 c15 c16 c17 c18 c19) s ⟨#[67]⟩ p1 ht, rfl, rfl⟩
end Go.L12
end

section
set_option linter.unusedVariables false
set_option maxRecDepth 100000
namespace Go.L12
open Go Go.Abs Go.Abs.AVal Go.Abs.AObj Go.Proofs
def rgpQ (i : Int) : Regs := mkR 148 [(0, .ptr 0 2 0 0), (15, .slc false 1 1 0 11 none), (16, .int .i64 11), (17, .int .i64 i)]
abbrev hppQ (u0 u1 : List AVal) (k : Nat) (bs : List (List AVal)) : AState := [.rows false 2 [[.ptr 0 2 0 0, .slc false 5 1 0 k none]], .rows false 1 (flQ 3 4), .dead, .rows true 2 [u0], .rows true 9 [u1], .trows 5 true 1 bs]
theorem pQI0_1 (u0 u1 : List AVal) (i : Int) (j k : Nat) (bs : List (List AVal))
    (h1 : nOk (toInt (List.getD u0 j any)) = true)
    (h2 : k = List.length bs)
    (h3 : List.length bs ≤ 70368744177664)
    (h4 : decide (j + 1 ≤ 2) = true)
    (h5 : areKinds [Kind.int IntKind.i64] [List.getD u0 j any] = true)
    (h6 : asType Try.prog 20 [List.getD (List.getD (flQ 3 4) (Int.toNat i) []) 0 any] = iface 100 (ptr 3 2 0 j))
    (h7 : decide (Int.toNat i < 11) = true)
    (h8 : decide (0 ≤ i ∧ i < (↑11 : Int)) = true)
    (h9 : decide (i < 11) = true) :
    TripN Try.prog 5 (loopNo Try.f64 0) (rgpQ i) (hppQ u0 u1 k bs) (AExit.normal) (mkR 148 [(0, ptr 0 2 0 0), (15, slc false 1 1 0 11 none), (16, iI 11), (17, iI (IntKind.wrap IntKind.i64 (i + 1)))]) ([rows false 2 [[ptr 0 2 0 0, slc false 5 1 0 (k + List.length (nRows (toInt (List.getD u0 j any)))) none]], rows false 1 (flQ 3 4), dead, rows true 2 [u0], rows true 9 [u1], trows 5 true 1 (bs ++ nRows (toInt (List.getD u0 j any)))]) :=
  evalT (st := St.mk (rgpQ i) (hppQ u0 u1 k bs) ([Dec.br true, Dec.rwl (iface 100 (ptr 3 2 0 j)), Dec.use [0, 5] [ptr 0 2 0 0, iI (toInt (List.getD u0 j any))] [rows false 2 [[ptr 0 2 0 0, slc false 1 1 0 k none]], trows 5 true 1 bs] (tuple []) [rows false 2 [[ptr 0 2 0 0, slc false 2 1 0 (k + List.length (nRows (toInt (List.getD u0 j any)))) none]], dead, trows 5 true 1 (bs ++ nRows (toInt (List.getD u0 j any)))]]) []) (st' := St.mk (mkR 148 [(0, ptr 0 2 0 0), (5, iface 100 (ptr 3 2 0 j)), (6, ptr 3 2 0 j), (15, slc false 1 1 0 11 none), (16, iI 11), (17, iI (IntKind.wrap IntKind.i64 (i + 1))), (18, tt true), (19, ptr 1 1 (Int.toNat i) 0), (20, iface 100 (ptr 3 2 0 j)), (21, iface 100 (ptr 3 2 0 j)), (22, tuple [ptr 3 2 0 j, tt true]), (23, tt true), (24, ptr 3 2 0 j), (25, ptr 0 2 0 0), (26, ptr 3 2 0 j), (27, ptr 3 2 0 j), (28, iI (toInt (List.getD u0 j any))), (29, tuple []), (147, iI (IntKind.wrap IntKind.i64 (i + 1)))]) ([rows false 2 [[ptr 0 2 0 0, slc false 6 1 0 (k + List.length (nRows (toInt (List.getD u0 j any)))) none]], rows false 1 (flQ 3 4), dead, rows true 2 [u0], rows true 9 [u1], dead, trows 5 true 1 (bs ++ nRows (toInt (List.getD u0 j any)))]) ([]) ((oU 5 68 [0, 5] [ptr 0 2 0 0, iI (toInt (List.getD u0 j any))] [rows false 2 [[ptr 0 2 0 0, slc false 5 1 0 k none]], rows false 1 (flQ 3 4), dead, rows true 2 [u0], rows true 9 [u1], trows 5 true 1 bs] [ptr 0 2 0 0, iI (toInt (List.getD u0 j any))] [rows false 2 [[ptr 0 2 0 0, slc false 1 1 0 k none]], trows 5 true 1 bs] (tuple []) [rows false 2 [[ptr 0 2 0 0, slc false 2 1 0 (k + List.length (nRows (toInt (List.getD u0 j any)))) none]], dead, trows 5 true 1 (bs ++ nRows (toInt (List.getD u0 j any)))]) :: (tr 1 ++ ((decide (j + 1 ≤ 2) = true) :: ((areKinds [Kind.int IntKind.i64] [List.getD u0 j any] = true) :: ((asType Try.prog 20 [List.getD (List.getD (flQ 3 4) (Int.toNat i) []) 0 any] = iface 100 (ptr 3 2 0 j)) :: ((decide (Int.toNat i < 11) = true) :: (tr 1 ++ ((decide (0 ≤ i ∧ i < (↑11 : Int)) = true) :: ((decide (i < 11) = true) :: [])))))))))) followed (by kernel_rfl) (allP_of ⟨⟨(@Go.L12.num_ok (toInt (List.getD u0 j any)) (bs) (k) h1 h2 h3), rfl, rfl, rfl⟩, (trC 1 ⟨h4, ⟨h5, ⟨h6, ⟨h7, (trC 1 ⟨h8, ⟨h9, trivial⟩⟩)⟩⟩⟩⟩)⟩) (keepM 148 [0, 15, 16, 17]) ([0, 1, 2, 3, 4, 6]) (by kernel_rfl) (by kernel_rfl) (by kernel_rfl)

theorem pQI0_2 (u0 u1 : List AVal) (i : Int) (j k : Nat) (bs : List (List AVal))
    (h1 : nOk (toInt (List.getD u0 j any)) = false)
    (h2 : toInt (List.getD u0 j any) < 9223372036854775808)
    (h3 : decide (j + 1 ≤ 2) = true)
    (h4 : areKinds [Kind.int IntKind.i64] [List.getD u0 j any] = true)
    (h5 : asType Try.prog 20 [List.getD (List.getD (flQ 3 4) (Int.toNat i) []) 0 any] = iface 100 (ptr 3 2 0 j))
    (h6 : decide (Int.toNat i < 11) = true)
    (h7 : decide (0 ≤ i ∧ i < (↑11 : Int)) = true)
    (h8 : decide (i < 11) = true) :
    TripN Try.prog 5 (loopNo Try.f64 0) (rgpQ i) (hppQ u0 u1 k bs) (AExit.pan 117) (mkR 148 [(0, ptr 0 2 0 0), (15, slc false 1 1 0 11 none), (16, iI 11), (17, iI i)]) ([dead, rows false 1 (flQ 3 4), dead, rows true 2 [u0], rows true 9 [u1]]) :=
  evalT (st := St.mk (rgpQ i) (hppQ u0 u1 k bs) ([Dec.br true, Dec.rwl (iface 100 (ptr 3 2 0 j)), Dec.use [0, 5] [ptr 0 2 0 0, iI (toInt (List.getD u0 j any))] [rows false 2 [[ptr 0 2 0 0, slc false 1 1 0 k none]], trows 5 true 1 bs] (pan 117) [dead, dead]]) []) (st' := St.mk (mkR 148 [(0, ptr 0 2 0 0), (5, iface 100 (ptr 3 2 0 j)), (6, ptr 3 2 0 j), (15, slc false 1 1 0 11 none), (16, iI 11), (17, iI i), (18, tt true), (19, ptr 1 1 (Int.toNat i) 0), (20, iface 100 (ptr 3 2 0 j)), (21, iface 100 (ptr 3 2 0 j)), (22, tuple [ptr 3 2 0 j, tt true]), (23, tt true), (24, ptr 3 2 0 j), (25, ptr 0 2 0 0), (26, ptr 3 2 0 j), (27, ptr 3 2 0 j), (28, iI (toInt (List.getD u0 j any)))]) ([dead, rows false 1 (flQ 3 4), dead, rows true 2 [u0], rows true 9 [u1], dead]) ([]) ((oU 5 68 [0, 5] [ptr 0 2 0 0, iI (toInt (List.getD u0 j any))] [rows false 2 [[ptr 0 2 0 0, slc false 5 1 0 k none]], rows false 1 (flQ 3 4), dead, rows true 2 [u0], rows true 9 [u1], trows 5 true 1 bs] [ptr 0 2 0 0, iI (toInt (List.getD u0 j any))] [rows false 2 [[ptr 0 2 0 0, slc false 1 1 0 k none]], trows 5 true 1 bs] (pan 117) [dead, dead]) :: (tr 1 ++ ((decide (j + 1 ≤ 2) = true) :: ((areKinds [Kind.int IntKind.i64] [List.getD u0 j any] = true) :: ((asType Try.prog 20 [List.getD (List.getD (flQ 3 4) (Int.toNat i) []) 0 any] = iface 100 (ptr 3 2 0 j)) :: ((decide (Int.toNat i < 11) = true) :: (tr 1 ++ ((decide (0 ≤ i ∧ i < (↑11 : Int)) = true) :: ((decide (i < 11) = true) :: [])))))))))) followed (by kernel_rfl) (allP_of ⟨⟨(@Go.L12.num_no (toInt (List.getD u0 j any)) (bs) (k) h1 h2), rfl, rfl, rfl⟩, (trC 1 ⟨h3, ⟨h4, ⟨h5, ⟨h6, (trC 1 ⟨h7, ⟨h8, trivial⟩⟩)⟩⟩⟩⟩)⟩) (keepM 148 [0, 15, 16, 17]) ([0, 1, 2, 3, 4]) (by kernel_rfl) (by kernel_rfl) (by kernel_rfl)

def pQI0_T (u0 u1 : List AVal) (i : Int) (j k : Nat) (bs : List (List AVal)) (Q : AExit → Regs → AState → Prop) : Prop := (decide (i < 11) = true) ∧ (decide (0 ≤ i ∧ i < (↑11 : Int)) = true) ∧ (decide (Int.toNat i < 11) = true) ∧ (asType Try.prog 20 [List.getD (List.getD (flQ 3 4) (Int.toNat i) []) 0 any] = iface 100 (ptr 3 2 0 j)) ∧ (areKinds [Kind.int IntKind.i64] [List.getD u0 j any] = true) ∧ (decide (j + 1 ≤ 2) = true) ∧ ((((nOk (toInt (List.getD u0 j any)) = true) ∧ (k = List.length bs) ∧ (List.length bs ≤ 70368744177664)) → Q (AExit.normal) (mkR 148 [(0, ptr 0 2 0 0), (15, slc false 1 1 0 11 none), (16, iI 11), (17, iI (IntKind.wrap IntKind.i64 (i + 1)))]) ([rows false 2 [[ptr 0 2 0 0, slc false 5 1 0 (k + List.length (nRows (toInt (List.getD u0 j any)))) none]], rows false 1 (flQ 3 4), dead, rows true 2 [u0], rows true 9 [u1], trows 5 true 1 (bs ++ nRows (toInt (List.getD u0 j any)))])) ∧ (((nOk (toInt (List.getD u0 j any)) = false) ∧ (toInt (List.getD u0 j any) < 9223372036854775808)) → Q (AExit.pan 117) (mkR 148 [(0, ptr 0 2 0 0), (15, slc false 1 1 0 11 none), (16, iI 11), (17, iI i)]) ([dead, rows false 1 (flQ 3 4), dead, rows true 2 [u0], rows true 9 [u1]])) ∧ (((nOk (toInt (List.getD u0 j any)) = true) ∧ (k = List.length bs) ∧ (List.length bs ≤ 70368744177664)) ∨ ((nOk (toInt (List.getD u0 j any)) = false) ∧ (toInt (List.getD u0 j any) < 9223372036854775808))))
theorem pQI0_wp (u0 u1 : List AVal) (i : Int) (j k : Nat) (bs : List (List AVal)) {Q : AExit → Regs → AState → Prop} (h : pQI0_T u0 u1 i j k bs Q) : ∃ e rg' σ', TripN Try.prog 5 (loopNo Try.f64 0) (rgpQ i) (hppQ u0 u1 k bs) e rg' σ' ∧ Q e rg' σ' :=
  Or.elim h.2.2.2.2.2.2.2.2 (fun (c0 : (nOk (toInt (List.getD u0 j any)) = true) ∧ (k = List.length bs) ∧ (List.length bs ≤ 70368744177664)) => ⟨_, _, _, pQI0_1 u0 u1 i j k bs (c0.1) (c0.2.1) (c0.2.2) (h.2.2.2.2.2.1) (h.2.2.2.2.1) (h.2.2.2.1) (h.2.2.1) (h.2.1) (h.1), (h.2.2.2.2.2.2.1 c0)⟩) (fun (c1 : (nOk (toInt (List.getD u0 j any)) = false) ∧ (toInt (List.getD u0 j any) < 9223372036854775808)) => ⟨_, _, _, pQI0_2 u0 u1 i j k bs (c1.1) (c1.2) (h.2.2.2.2.2.1) (h.2.2.2.2.1) (h.2.2.2.1) (h.2.2.1) (h.2.1) (h.1), (h.2.2.2.2.2.2.2.1 c1)⟩)


theorem pQI1_1 (u0 u1 : List AVal) (i : Int) (j k : Nat) (bs : List (List AVal))
    (h1 : nOk (toInt (List.getD u1 j any)) = true)
    (h2 : k = List.length bs)
    (h3 : List.length bs ≤ 70368744177664)
    (h4 : decide (j + 1 ≤ 9) = true)
    (h5 : areKinds [Kind.int IntKind.i64] [List.getD u1 j any] = true)
    (h6 : asType Try.prog 20 [List.getD (List.getD (flQ 3 4) (Int.toNat i) []) 0 any] = iface 100 (ptr 4 9 0 j))
    (h7 : decide (Int.toNat i < 11) = true)
    (h8 : decide (0 ≤ i ∧ i < (↑11 : Int)) = true)
    (h9 : decide (i < 11) = true) :
    TripN Try.prog 5 (loopNo Try.f64 0) (rgpQ i) (hppQ u0 u1 k bs) (AExit.normal) (mkR 148 [(0, ptr 0 2 0 0), (15, slc false 1 1 0 11 none), (16, iI 11), (17, iI (IntKind.wrap IntKind.i64 (i + 1)))]) ([rows false 2 [[ptr 0 2 0 0, slc false 5 1 0 (k + List.length (nRows (toInt (List.getD u1 j any)))) none]], rows false 1 (flQ 3 4), dead, rows true 2 [u0], rows true 9 [u1], trows 5 true 1 (bs ++ nRows (toInt (List.getD u1 j any)))]) :=
  evalT (st := St.mk (rgpQ i) (hppQ u0 u1 k bs) ([Dec.br true, Dec.rwl (iface 100 (ptr 4 9 0 j)), Dec.use [0, 5] [ptr 0 2 0 0, iI (toInt (List.getD u1 j any))] [rows false 2 [[ptr 0 2 0 0, slc false 1 1 0 k none]], trows 5 true 1 bs] (tuple []) [rows false 2 [[ptr 0 2 0 0, slc false 2 1 0 (k + List.length (nRows (toInt (List.getD u1 j any)))) none]], dead, trows 5 true 1 (bs ++ nRows (toInt (List.getD u1 j any)))]]) []) (st' := St.mk (mkR 148 [(0, ptr 0 2 0 0), (5, iface 100 (ptr 4 9 0 j)), (6, ptr 4 9 0 j), (15, slc false 1 1 0 11 none), (16, iI 11), (17, iI (IntKind.wrap IntKind.i64 (i + 1))), (18, tt true), (19, ptr 1 1 (Int.toNat i) 0), (20, iface 100 (ptr 4 9 0 j)), (21, iface 100 (ptr 4 9 0 j)), (22, tuple [ptr 4 9 0 j, tt true]), (23, tt true), (24, ptr 4 9 0 j), (25, ptr 0 2 0 0), (26, ptr 4 9 0 j), (27, ptr 4 9 0 j), (28, iI (toInt (List.getD u1 j any))), (29, tuple []), (147, iI (IntKind.wrap IntKind.i64 (i + 1)))]) ([rows false 2 [[ptr 0 2 0 0, slc false 6 1 0 (k + List.length (nRows (toInt (List.getD u1 j any)))) none]], rows false 1 (flQ 3 4), dead, rows true 2 [u0], rows true 9 [u1], dead, trows 5 true 1 (bs ++ nRows (toInt (List.getD u1 j any)))]) ([]) ((oU 5 68 [0, 5] [ptr 0 2 0 0, iI (toInt (List.getD u1 j any))] [rows false 2 [[ptr 0 2 0 0, slc false 5 1 0 k none]], rows false 1 (flQ 3 4), dead, rows true 2 [u0], rows true 9 [u1], trows 5 true 1 bs] [ptr 0 2 0 0, iI (toInt (List.getD u1 j any))] [rows false 2 [[ptr 0 2 0 0, slc false 1 1 0 k none]], trows 5 true 1 bs] (tuple []) [rows false 2 [[ptr 0 2 0 0, slc false 2 1 0 (k + List.length (nRows (toInt (List.getD u1 j any)))) none]], dead, trows 5 true 1 (bs ++ nRows (toInt (List.getD u1 j any)))]) :: (tr 1 ++ ((decide (j + 1 ≤ 9) = true) :: ((areKinds [Kind.int IntKind.i64] [List.getD u1 j any] = true) :: ((asType Try.prog 20 [List.getD (List.getD (flQ 3 4) (Int.toNat i) []) 0 any] = iface 100 (ptr 4 9 0 j)) :: ((decide (Int.toNat i < 11) = true) :: (tr 1 ++ ((decide (0 ≤ i ∧ i < (↑11 : Int)) = true) :: ((decide (i < 11) = true) :: [])))))))))) followed (by kernel_rfl) (allP_of ⟨⟨(@Go.L12.num_ok (toInt (List.getD u1 j any)) (bs) (k) h1 h2 h3), rfl, rfl, rfl⟩, (trC 1 ⟨h4, ⟨h5, ⟨h6, ⟨h7, (trC 1 ⟨h8, ⟨h9, trivial⟩⟩)⟩⟩⟩⟩)⟩) (keepM 148 [0, 15, 16, 17]) ([0, 1, 2, 3, 4, 6]) (by kernel_rfl) (by kernel_rfl) (by kernel_rfl)

theorem pQI1_2 (u0 u1 : List AVal) (i : Int) (j k : Nat) (bs : List (List AVal))
    (h1 : nOk (toInt (List.getD u1 j any)) = false)
    (h2 : toInt (List.getD u1 j any) < 9223372036854775808)
    (h3 : decide (j + 1 ≤ 9) = true)
    (h4 : areKinds [Kind.int IntKind.i64] [List.getD u1 j any] = true)
    (h5 : asType Try.prog 20 [List.getD (List.getD (flQ 3 4) (Int.toNat i) []) 0 any] = iface 100 (ptr 4 9 0 j))
    (h6 : decide (Int.toNat i < 11) = true)
    (h7 : decide (0 ≤ i ∧ i < (↑11 : Int)) = true)
    (h8 : decide (i < 11) = true) :
    TripN Try.prog 5 (loopNo Try.f64 0) (rgpQ i) (hppQ u0 u1 k bs) (AExit.pan 117) (mkR 148 [(0, ptr 0 2 0 0), (15, slc false 1 1 0 11 none), (16, iI 11), (17, iI i)]) ([dead, rows false 1 (flQ 3 4), dead, rows true 2 [u0], rows true 9 [u1]]) :=
  evalT (st := St.mk (rgpQ i) (hppQ u0 u1 k bs) ([Dec.br true, Dec.rwl (iface 100 (ptr 4 9 0 j)), Dec.use [0, 5] [ptr 0 2 0 0, iI (toInt (List.getD u1 j any))] [rows false 2 [[ptr 0 2 0 0, slc false 1 1 0 k none]], trows 5 true 1 bs] (pan 117) [dead, dead]]) []) (st' := St.mk (mkR 148 [(0, ptr 0 2 0 0), (5, iface 100 (ptr 4 9 0 j)), (6, ptr 4 9 0 j), (15, slc false 1 1 0 11 none), (16, iI 11), (17, iI i), (18, tt true), (19, ptr 1 1 (Int.toNat i) 0), (20, iface 100 (ptr 4 9 0 j)), (21, iface 100 (ptr 4 9 0 j)), (22, tuple [ptr 4 9 0 j, tt true]), (23, tt true), (24, ptr 4 9 0 j), (25, ptr 0 2 0 0), (26, ptr 4 9 0 j), (27, ptr 4 9 0 j), (28, iI (toInt (List.getD u1 j any)))]) ([dead, rows false 1 (flQ 3 4), dead, rows true 2 [u0], rows true 9 [u1], dead]) ([]) ((oU 5 68 [0, 5] [ptr 0 2 0 0, iI (toInt (List.getD u1 j any))] [rows false 2 [[ptr 0 2 0 0, slc false 5 1 0 k none]], rows false 1 (flQ 3 4), dead, rows true 2 [u0], rows true 9 [u1], trows 5 true 1 bs] [ptr 0 2 0 0, iI (toInt (List.getD u1 j any))] [rows false 2 [[ptr 0 2 0 0, slc false 1 1 0 k none]], trows 5 true 1 bs] (pan 117) [dead, dead]) :: (tr 1 ++ ((decide (j + 1 ≤ 9) = true) :: ((areKinds [Kind.int IntKind.i64] [List.getD u1 j any] = true) :: ((asType Try.prog 20 [List.getD (List.getD (flQ 3 4) (Int.toNat i) []) 0 any] = iface 100 (ptr 4 9 0 j)) :: ((decide (Int.toNat i < 11) = true) :: (tr 1 ++ ((decide (0 ≤ i ∧ i < (↑11 : Int)) = true) :: ((decide (i < 11) = true) :: [])))))))))) followed (by kernel_rfl) (allP_of ⟨⟨(@Go.L12.num_no (toInt (List.getD u1 j any)) (bs) (k) h1 h2), rfl, rfl, rfl⟩, (trC 1 ⟨h3, ⟨h4, ⟨h5, ⟨h6, (trC 1 ⟨h7, ⟨h8, trivial⟩⟩)⟩⟩⟩⟩)⟩) (keepM 148 [0, 15, 16, 17]) ([0, 1, 2, 3, 4]) (by kernel_rfl) (by kernel_rfl) (by kernel_rfl)

def pQI1_T (u0 u1 : List AVal) (i : Int) (j k : Nat) (bs : List (List AVal)) (Q : AExit → Regs → AState → Prop) : Prop := (decide (i < 11) = true) ∧ (decide (0 ≤ i ∧ i < (↑11 : Int)) = true) ∧ (decide (Int.toNat i < 11) = true) ∧ (asType Try.prog 20 [List.getD (List.getD (flQ 3 4) (Int.toNat i) []) 0 any] = iface 100 (ptr 4 9 0 j)) ∧ (areKinds [Kind.int IntKind.i64] [List.getD u1 j any] = true) ∧ (decide (j + 1 ≤ 9) = true) ∧ ((((nOk (toInt (List.getD u1 j any)) = true) ∧ (k = List.length bs) ∧ (List.length bs ≤ 70368744177664)) → Q (AExit.normal) (mkR 148 [(0, ptr 0 2 0 0), (15, slc false 1 1 0 11 none), (16, iI 11), (17, iI (IntKind.wrap IntKind.i64 (i + 1)))]) ([rows false 2 [[ptr 0 2 0 0, slc false 5 1 0 (k + List.length (nRows (toInt (List.getD u1 j any)))) none]], rows false 1 (flQ 3 4), dead, rows true 2 [u0], rows true 9 [u1], trows 5 true 1 (bs ++ nRows (toInt (List.getD u1 j any)))])) ∧ (((nOk (toInt (List.getD u1 j any)) = false) ∧ (toInt (List.getD u1 j any) < 9223372036854775808)) → Q (AExit.pan 117) (mkR 148 [(0, ptr 0 2 0 0), (15, slc false 1 1 0 11 none), (16, iI 11), (17, iI i)]) ([dead, rows false 1 (flQ 3 4), dead, rows true 2 [u0], rows true 9 [u1]])) ∧ (((nOk (toInt (List.getD u1 j any)) = true) ∧ (k = List.length bs) ∧ (List.length bs ≤ 70368744177664)) ∨ ((nOk (toInt (List.getD u1 j any)) = false) ∧ (toInt (List.getD u1 j any) < 9223372036854775808))))
theorem pQI1_wp (u0 u1 : List AVal) (i : Int) (j k : Nat) (bs : List (List AVal)) {Q : AExit → Regs → AState → Prop} (h : pQI1_T u0 u1 i j k bs Q) : ∃ e rg' σ', TripN Try.prog 5 (loopNo Try.f64 0) (rgpQ i) (hppQ u0 u1 k bs) e rg' σ' ∧ Q e rg' σ' :=
  Or.elim h.2.2.2.2.2.2.2.2 (fun (c0 : (nOk (toInt (List.getD u1 j any)) = true) ∧ (k = List.length bs) ∧ (List.length bs ≤ 70368744177664)) => ⟨_, _, _, pQI1_1 u0 u1 i j k bs (c0.1) (c0.2.1) (c0.2.2) (h.2.2.2.2.2.1) (h.2.2.2.2.1) (h.2.2.2.1) (h.2.2.1) (h.2.1) (h.1), (h.2.2.2.2.2.2.1 c0)⟩) (fun (c1 : (nOk (toInt (List.getD u1 j any)) = false) ∧ (toInt (List.getD u1 j any) < 9223372036854775808)) => ⟨_, _, _, pQI1_2 u0 u1 i j k bs (c1.1) (c1.2) (h.2.2.2.2.2.1) (h.2.2.2.2.1) (h.2.2.2.1) (h.2.2.1) (h.2.1) (h.1), (h.2.2.2.2.2.2.2.1 c1)⟩)


theorem pQS1_1 (u0 u1 : List AVal) (i : Int) (j k : Nat) (bs : List (List AVal))
    (h1 : k + List.length (nRows (↑(ByteArray.size (toStr (List.getD u1 j any))) : Int)) = List.length (bs ++ nRows (↑(ByteArray.size (toStr (List.getD u1 j any))) : Int)))
    (h2 : ByteArray.size (toStr (List.getD u1 j any)) ≤ 262144)
    (h3 : List.length (bs ++ nRows (↑(ByteArray.size (toStr (List.getD u1 j any))) : Int)) ≤ 70368744177664)
    (h4 : decide (j + 1 ≤ 9) = true)
    (h5 : areKinds [Kind.str] [List.getD u1 j any] = true)
    (h6 : nOk (↑(ByteArray.size (toStr (List.getD u1 j any))) : Int) = true)
    (h7 : k = List.length bs)
    (h8 : List.length bs ≤ 70368744177664)
    (h9 : decide ((↑(ByteArray.size (toStr (List.getD u1 j any))) : Int) ≤ 262144) = true)
    (h10 : asType Try.prog 20 [List.getD (List.getD (flQ 3 4) (Int.toNat i) []) 0 any] = iface 104 (ptr 4 9 0 j))
    (h11 : decide (Int.toNat i < 11) = true)
    (h12 : decide (0 ≤ i ∧ i < (↑11 : Int)) = true)
    (h13 : decide (i < 11) = true) :
    TripN Try.prog 5 (loopNo Try.f64 0) (rgpQ i) (hppQ u0 u1 k bs) (AExit.normal) (mkR 148 [(0, ptr 0 2 0 0), (15, slc false 1 1 0 11 none), (16, iI 11), (17, iI (IntKind.wrap IntKind.i64 (i + 1)))]) ([rows false 2 [[ptr 0 2 0 0, slc false 5 1 0 (k + List.length (nRows (↑(ByteArray.size (toStr (List.getD u1 j any))) : Int)) + List.length (byteRows (toStr (List.getD u1 j any)))) none]], rows false 1 (flQ 3 4), dead, rows true 2 [u0], rows true 9 [u1], trows 5 true 1 (bs ++ nRows (↑(ByteArray.size (toStr (List.getD u1 j any))) : Int) ++ byteRows (toStr (List.getD u1 j any)))]) :=
  evalT (st := St.mk (rgpQ i) (hppQ u0 u1 k bs) ([Dec.br true, Dec.rwl (iface 104 (ptr 4 9 0 j)), Dec.use [] [bool (decide ((↑(ByteArray.size (toStr (List.getD u1 j any))) : Int) ≤ 262144))] [] (tuple []) [], Dec.use [0, 5] [ptr 0 2 0 0, iI (↑(ByteArray.size (toStr (List.getD u1 j any))) : Int)] [rows false 2 [[ptr 0 2 0 0, slc false 1 1 0 k none]], trows 5 true 1 bs] (tuple []) [rows false 2 [[ptr 0 2 0 0, slc false 2 1 0 (k + List.length (nRows (↑(ByteArray.size (toStr (List.getD u1 j any))) : Int))) none]], dead, trows 5 true 1 (bs ++ nRows (↑(ByteArray.size (toStr (List.getD u1 j any))) : Int))], Dec.use [0, 6] [ptr 0 2 0 0, str (toStr (List.getD u1 j any))] [rows false 2 [[ptr 0 2 0 0, slc false 1 1 0 (k + List.length (nRows (↑(ByteArray.size (toStr (List.getD u1 j any))) : Int))) none]], trows 5 true 1 (bs ++ nRows (↑(ByteArray.size (toStr (List.getD u1 j any))) : Int))] (tuple [iI (↑(ByteArray.size (toStr (List.getD u1 j any))) : Int), nili]) [rows false 2 [[ptr 0 2 0 0, slc false 2 1 0 (k + List.length (nRows (↑(ByteArray.size (toStr (List.getD u1 j any))) : Int)) + List.length (byteRows (toStr (List.getD u1 j any)))) none]], dead, trows 5 true 1 (bs ++ nRows (↑(ByteArray.size (toStr (List.getD u1 j any))) : Int) ++ byteRows (toStr (List.getD u1 j any)))]]) []) (st' := St.mk (mkR 148 [(0, ptr 0 2 0 0), (5, iface 104 (ptr 4 9 0 j)), (10, ptr 4 9 0 j), (15, slc false 1 1 0 11 none), (16, iI 11), (17, iI (IntKind.wrap IntKind.i64 (i + 1))), (18, tt true), (19, ptr 1 1 (Int.toNat i) 0), (20, iface 104 (ptr 4 9 0 j)), (21, iface 104 (ptr 4 9 0 j)), (22, tuple [nilp, tt false]), (23, tt false), (24, nilp), (30, tuple [nilp, tt false]), (31, tt false), (32, nilp), (38, tuple [nilp, tt false]), (39, tt false), (40, nilp), (47, tuple [ptr 4 9 0 j, tt true]), (48, tt true), (49, ptr 4 9 0 j), (50, ptr 4 9 0 j), (51, ptr 4 9 0 j), (52, str (toStr (List.getD u1 j any))), (53, iI (↑(ByteArray.size (toStr (List.getD u1 j any))) : Int)), (54, bool (decide ((↑(ByteArray.size (toStr (List.getD u1 j any))) : Int) ≤ 262144))), (55, tuple []), (56, ptr 0 2 0 0), (57, ptr 4 9 0 j), (58, ptr 4 9 0 j), (59, str (toStr (List.getD u1 j any))), (60, iI (↑(ByteArray.size (toStr (List.getD u1 j any))) : Int)), (61, tuple []), (62, ptr 0 2 0 0), (63, ptr 4 9 0 j), (64, ptr 4 9 0 j), (65, str (toStr (List.getD u1 j any))), (66, tuple [iI (↑(ByteArray.size (toStr (List.getD u1 j any))) : Int), nili]), (147, iI (IntKind.wrap IntKind.i64 (i + 1)))]) ([rows false 2 [[ptr 0 2 0 0, slc false 7 1 0 (k + List.length (nRows (↑(ByteArray.size (toStr (List.getD u1 j any))) : Int)) + List.length (byteRows (toStr (List.getD u1 j any)))) none]], rows false 1 (flQ 3 4), dead, rows true 2 [u0], rows true 9 [u1], dead, dead, trows 5 true 1 (bs ++ nRows (↑(ByteArray.size (toStr (List.getD u1 j any))) : Int) ++ byteRows (toStr (List.getD u1 j any)))]) ([]) ((oU 5 52 [0, 6] [ptr 0 2 0 0, str (toStr (List.getD u1 j any))] [rows false 2 [[ptr 0 2 0 0, slc false 6 1 0 (k + List.length (nRows (↑(ByteArray.size (toStr (List.getD u1 j any))) : Int))) none]], rows false 1 (flQ 3 4), dead, rows true 2 [u0], rows true 9 [u1], dead, trows 5 true 1 (bs ++ nRows (↑(ByteArray.size (toStr (List.getD u1 j any))) : Int))] [ptr 0 2 0 0, str (toStr (List.getD u1 j any))] [rows false 2 [[ptr 0 2 0 0, slc false 1 1 0 (k + List.length (nRows (↑(ByteArray.size (toStr (List.getD u1 j any))) : Int))) none]], trows 5 true 1 (bs ++ nRows (↑(ByteArray.size (toStr (List.getD u1 j any))) : Int))] (tuple [iI (↑(ByteArray.size (toStr (List.getD u1 j any))) : Int), nili]) [rows false 2 [[ptr 0 2 0 0, slc false 2 1 0 (k + List.length (nRows (↑(ByteArray.size (toStr (List.getD u1 j any))) : Int)) + List.length (byteRows (toStr (List.getD u1 j any)))) none]], dead, trows 5 true 1 (bs ++ nRows (↑(ByteArray.size (toStr (List.getD u1 j any))) : Int) ++ byteRows (toStr (List.getD u1 j any)))]) :: (tr 1 ++ ((decide (j + 1 ≤ 9) = true) :: ((areKinds [Kind.str] [List.getD u1 j any] = true) :: ((oU 5 68 [0, 5] [ptr 0 2 0 0, iI (↑(ByteArray.size (toStr (List.getD u1 j any))) : Int)] [rows false 2 [[ptr 0 2 0 0, slc false 5 1 0 k none]], rows false 1 (flQ 3 4), dead, rows true 2 [u0], rows true 9 [u1], trows 5 true 1 bs] [ptr 0 2 0 0, iI (↑(ByteArray.size (toStr (List.getD u1 j any))) : Int)] [rows false 2 [[ptr 0 2 0 0, slc false 1 1 0 k none]], trows 5 true 1 bs] (tuple []) [rows false 2 [[ptr 0 2 0 0, slc false 2 1 0 (k + List.length (nRows (↑(ByteArray.size (toStr (List.getD u1 j any))) : Int))) none]], dead, trows 5 true 1 (bs ++ nRows (↑(ByteArray.size (toStr (List.getD u1 j any))) : Int))]) :: (tr 1 ++ ((decide (j + 1 ≤ 9) = true) :: ((areKinds [Kind.str] [List.getD u1 j any] = true) :: ((oU 5 58 [] [bool (decide ((↑(ByteArray.size (toStr (List.getD u1 j any))) : Int) ≤ 262144))] [rows false 2 [[ptr 0 2 0 0, slc false 5 1 0 k none]], rows false 1 (flQ 3 4), dead, rows true 2 [u0], rows true 9 [u1], trows 5 true 1 bs] [bool (decide ((↑(ByteArray.size (toStr (List.getD u1 j any))) : Int) ≤ 262144))] [] (tuple []) []) :: (tr 1 ++ ((decide (j + 1 ≤ 9) = true) :: ((areKinds [Kind.str] [List.getD u1 j any] = true) :: ((asType Try.prog 20 [List.getD (List.getD (flQ 3 4) (Int.toNat i) []) 0 any] = iface 104 (ptr 4 9 0 j)) :: ((decide (Int.toNat i < 11) = true) :: (tr 1 ++ ((decide (0 ≤ i ∧ i < (↑11 : Int)) = true) :: ((decide (i < 11) = true) :: [])))))))))))))))))) followed (by kernel_rfl) (allP_of ⟨⟨(@Go.L12.ws_okL (toStr (List.getD u1 j any)) (bs ++ nRows (↑(ByteArray.size (toStr (List.getD u1 j any))) : Int)) (k + List.length (nRows (↑(ByteArray.size (toStr (List.getD u1 j any))) : Int))) h1 h2 h3), rfl, rfl, rfl⟩, (trC 1 ⟨h4, ⟨h5, ⟨⟨(@Go.L12.num_ok ((↑(ByteArray.size (toStr (List.getD u1 j any))) : Int)) (bs) (k) h6 h7 h8), rfl, rfl, rfl⟩, (trC 1 ⟨h4, ⟨h5, ⟨⟨(@Go.L12.right_ok (decide ((↑(ByteArray.size (toStr (List.getD u1 j any))) : Int) ≤ 262144)) h9), rfl, rfl, rfl⟩, (trC 1 ⟨h4, ⟨h5, ⟨h10, ⟨h11, (trC 1 ⟨h12, ⟨h13, trivial⟩⟩)⟩⟩⟩⟩)⟩⟩⟩)⟩⟩⟩)⟩) (keepM 148 [0, 15, 16, 17]) ([0, 1, 2, 3, 4, 7]) (by kernel_rfl) (by kernel_rfl) (by kernel_rfl)

theorem pQS1_2 (u0 u1 : List AVal) (i : Int) (j k : Nat) (bs : List (List AVal))
    (h1 : nOk (↑(ByteArray.size (toStr (List.getD u1 j any))) : Int) = false)
    (h2 : (↑(ByteArray.size (toStr (List.getD u1 j any))) : Int) < 9223372036854775808)
    (h3 : decide (j + 1 ≤ 9) = true)
    (h4 : areKinds [Kind.str] [List.getD u1 j any] = true)
    (h5 : decide ((↑(ByteArray.size (toStr (List.getD u1 j any))) : Int) ≤ 262144) = true)
    (h6 : asType Try.prog 20 [List.getD (List.getD (flQ 3 4) (Int.toNat i) []) 0 any] = iface 104 (ptr 4 9 0 j))
    (h7 : decide (Int.toNat i < 11) = true)
    (h8 : decide (0 ≤ i ∧ i < (↑11 : Int)) = true)
    (h9 : decide (i < 11) = true) :
    TripN Try.prog 5 (loopNo Try.f64 0) (rgpQ i) (hppQ u0 u1 k bs) (AExit.pan 117) (mkR 148 [(0, ptr 0 2 0 0), (15, slc false 1 1 0 11 none), (16, iI 11), (17, iI i)]) ([dead, rows false 1 (flQ 3 4), dead, rows true 2 [u0], rows true 9 [u1]]) :=
  evalT (st := St.mk (rgpQ i) (hppQ u0 u1 k bs) ([Dec.br true, Dec.rwl (iface 104 (ptr 4 9 0 j)), Dec.use [] [bool (decide ((↑(ByteArray.size (toStr (List.getD u1 j any))) : Int) ≤ 262144))] [] (tuple []) [], Dec.use [0, 5] [ptr 0 2 0 0, iI (↑(ByteArray.size (toStr (List.getD u1 j any))) : Int)] [rows false 2 [[ptr 0 2 0 0, slc false 1 1 0 k none]], trows 5 true 1 bs] (pan 117) [dead, dead]]) []) (st' := St.mk (mkR 148 [(0, ptr 0 2 0 0), (5, iface 104 (ptr 4 9 0 j)), (10, ptr 4 9 0 j), (15, slc false 1 1 0 11 none), (16, iI 11), (17, iI i), (18, tt true), (19, ptr 1 1 (Int.toNat i) 0), (20, iface 104 (ptr 4 9 0 j)), (21, iface 104 (ptr 4 9 0 j)), (22, tuple [nilp, tt false]), (23, tt false), (24, nilp), (30, tuple [nilp, tt false]), (31, tt false), (32, nilp), (38, tuple [nilp, tt false]), (39, tt false), (40, nilp), (47, tuple [ptr 4 9 0 j, tt true]), (48, tt true), (49, ptr 4 9 0 j), (50, ptr 4 9 0 j), (51, ptr 4 9 0 j), (52, str (toStr (List.getD u1 j any))), (53, iI (↑(ByteArray.size (toStr (List.getD u1 j any))) : Int)), (54, bool (decide ((↑(ByteArray.size (toStr (List.getD u1 j any))) : Int) ≤ 262144))), (55, tuple []), (56, ptr 0 2 0 0), (57, ptr 4 9 0 j), (58, ptr 4 9 0 j), (59, str (toStr (List.getD u1 j any))), (60, iI (↑(ByteArray.size (toStr (List.getD u1 j any))) : Int))]) ([dead, rows false 1 (flQ 3 4), dead, rows true 2 [u0], rows true 9 [u1], dead]) ([]) ((oU 5 68 [0, 5] [ptr 0 2 0 0, iI (↑(ByteArray.size (toStr (List.getD u1 j any))) : Int)] [rows false 2 [[ptr 0 2 0 0, slc false 5 1 0 k none]], rows false 1 (flQ 3 4), dead, rows true 2 [u0], rows true 9 [u1], trows 5 true 1 bs] [ptr 0 2 0 0, iI (↑(ByteArray.size (toStr (List.getD u1 j any))) : Int)] [rows false 2 [[ptr 0 2 0 0, slc false 1 1 0 k none]], trows 5 true 1 bs] (pan 117) [dead, dead]) :: (tr 1 ++ ((decide (j + 1 ≤ 9) = true) :: ((areKinds [Kind.str] [List.getD u1 j any] = true) :: ((oU 5 58 [] [bool (decide ((↑(ByteArray.size (toStr (List.getD u1 j any))) : Int) ≤ 262144))] [rows false 2 [[ptr 0 2 0 0, slc false 5 1 0 k none]], rows false 1 (flQ 3 4), dead, rows true 2 [u0], rows true 9 [u1], trows 5 true 1 bs] [bool (decide ((↑(ByteArray.size (toStr (List.getD u1 j any))) : Int) ≤ 262144))] [] (tuple []) []) :: (tr 1 ++ ((decide (j + 1 ≤ 9) = true) :: ((areKinds [Kind.str] [List.getD u1 j any] = true) :: ((asType Try.prog 20 [List.getD (List.getD (flQ 3 4) (Int.toNat i) []) 0 any] = iface 104 (ptr 4 9 0 j)) :: ((decide (Int.toNat i < 11) = true) :: (tr 1 ++ ((decide (0 ≤ i ∧ i < (↑11 : Int)) = true) :: ((decide (i < 11) = true) :: [])))))))))))))) followed (by kernel_rfl) (allP_of ⟨⟨(@Go.L12.num_no ((↑(ByteArray.size (toStr (List.getD u1 j any))) : Int)) (bs) (k) h1 h2), rfl, rfl, rfl⟩, (trC 1 ⟨h3, ⟨h4, ⟨⟨(@Go.L12.right_ok (decide ((↑(ByteArray.size (toStr (List.getD u1 j any))) : Int) ≤ 262144)) h5), rfl, rfl, rfl⟩, (trC 1 ⟨h3, ⟨h4, ⟨h6, ⟨h7, (trC 1 ⟨h8, ⟨h9, trivial⟩⟩)⟩⟩⟩⟩)⟩⟩⟩)⟩) (keepM 148 [0, 15, 16, 17]) ([0, 1, 2, 3, 4]) (by kernel_rfl) (by kernel_rfl) (by kernel_rfl)

theorem pQS1_3 (u0 u1 : List AVal) (i : Int) (j k : Nat) (bs : List (List AVal))
    (h1 : decide ((↑(ByteArray.size (toStr (List.getD u1 j any))) : Int) ≤ 262144) = false)
    (h2 : decide (j + 1 ≤ 9) = true)
    (h3 : areKinds [Kind.str] [List.getD u1 j any] = true)
    (h4 : asType Try.prog 20 [List.getD (List.getD (flQ 3 4) (Int.toNat i) []) 0 any] = iface 104 (ptr 4 9 0 j))
    (h5 : decide (Int.toNat i < 11) = true)
    (h6 : decide (0 ≤ i ∧ i < (↑11 : Int)) = true)
    (h7 : decide (i < 11) = true) :
    TripN Try.prog 5 (loopNo Try.f64 0) (rgpQ i) (hppQ u0 u1 k bs) (AExit.pan 117) (mkR 148 [(0, ptr 0 2 0 0), (15, slc false 1 1 0 11 none), (16, iI 11), (17, iI i)]) ([rows false 2 [[ptr 0 2 0 0, slc false 5 1 0 k none]], rows false 1 (flQ 3 4), dead, rows true 2 [u0], rows true 9 [u1], trows 5 true 1 bs]) :=
  evalT (st := St.mk (rgpQ i) (hppQ u0 u1 k bs) ([Dec.br true, Dec.rwl (iface 104 (ptr 4 9 0 j)), Dec.use [] [bool (decide ((↑(ByteArray.size (toStr (List.getD u1 j any))) : Int) ≤ 262144))] [] (pan 117) []]) []) (st' := St.mk (mkR 148 [(0, ptr 0 2 0 0), (5, iface 104 (ptr 4 9 0 j)), (10, ptr 4 9 0 j), (15, slc false 1 1 0 11 none), (16, iI 11), (17, iI i), (18, tt true), (19, ptr 1 1 (Int.toNat i) 0), (20, iface 104 (ptr 4 9 0 j)), (21, iface 104 (ptr 4 9 0 j)), (22, tuple [nilp, tt false]), (23, tt false), (24, nilp), (30, tuple [nilp, tt false]), (31, tt false), (32, nilp), (38, tuple [nilp, tt false]), (39, tt false), (40, nilp), (47, tuple [ptr 4 9 0 j, tt true]), (48, tt true), (49, ptr 4 9 0 j), (50, ptr 4 9 0 j), (51, ptr 4 9 0 j), (52, str (toStr (List.getD u1 j any))), (53, iI (↑(ByteArray.size (toStr (List.getD u1 j any))) : Int)), (54, bool (decide ((↑(ByteArray.size (toStr (List.getD u1 j any))) : Int) ≤ 262144)))]) ([rows false 2 [[ptr 0 2 0 0, slc false 5 1 0 k none]], rows false 1 (flQ 3 4), dead, rows true 2 [u0], rows true 9 [u1], trows 5 true 1 bs]) ([]) ((oU 5 58 [] [bool (decide ((↑(ByteArray.size (toStr (List.getD u1 j any))) : Int) ≤ 262144))] [rows false 2 [[ptr 0 2 0 0, slc false 5 1 0 k none]], rows false 1 (flQ 3 4), dead, rows true 2 [u0], rows true 9 [u1], trows 5 true 1 bs] [bool (decide ((↑(ByteArray.size (toStr (List.getD u1 j any))) : Int) ≤ 262144))] [] (pan 117) []) :: (tr 1 ++ ((decide (j + 1 ≤ 9) = true) :: ((areKinds [Kind.str] [List.getD u1 j any] = true) :: ((asType Try.prog 20 [List.getD (List.getD (flQ 3 4) (Int.toNat i) []) 0 any] = iface 104 (ptr 4 9 0 j)) :: ((decide (Int.toNat i < 11) = true) :: (tr 1 ++ ((decide (0 ≤ i ∧ i < (↑11 : Int)) = true) :: ((decide (i < 11) = true) :: [])))))))))) followed (by kernel_rfl) (allP_of ⟨⟨(@Go.L12.right_no (decide ((↑(ByteArray.size (toStr (List.getD u1 j any))) : Int) ≤ 262144)) h1), rfl, rfl, rfl⟩, (trC 1 ⟨h2, ⟨h3, ⟨h4, ⟨h5, (trC 1 ⟨h6, ⟨h7, trivial⟩⟩)⟩⟩⟩⟩)⟩) (keepM 148 [0, 15, 16, 17]) ([0, 1, 2, 3, 4, 5]) (by kernel_rfl) (by kernel_rfl) (by kernel_rfl)

def pQS1_T (u0 u1 : List AVal) (i : Int) (j k : Nat) (bs : List (List AVal)) (Q : AExit → Regs → AState → Prop) : Prop := (decide (i < 11) = true) ∧ (decide (0 ≤ i ∧ i < (↑11 : Int)) = true) ∧ (decide (Int.toNat i < 11) = true) ∧ (asType Try.prog 20 [List.getD (List.getD (flQ 3 4) (Int.toNat i) []) 0 any] = iface 104 (ptr 4 9 0 j)) ∧ (areKinds [Kind.str] [List.getD u1 j any] = true) ∧ (decide (j + 1 ≤ 9) = true) ∧ ((((decide ((↑(ByteArray.size (toStr (List.getD u1 j any))) : Int) ≤ 262144) = true)) → ((((nOk (↑(ByteArray.size (toStr (List.getD u1 j any))) : Int) = true) ∧ (k = List.length bs) ∧ (List.length bs ≤ 70368744177664)) → (k + List.length (nRows (↑(ByteArray.size (toStr (List.getD u1 j any))) : Int)) = List.length (bs ++ nRows (↑(ByteArray.size (toStr (List.getD u1 j any))) : Int))) ∧ (ByteArray.size (toStr (List.getD u1 j any)) ≤ 262144) ∧ (List.length (bs ++ nRows (↑(ByteArray.size (toStr (List.getD u1 j any))) : Int)) ≤ 70368744177664) ∧ Q (AExit.normal) (mkR 148 [(0, ptr 0 2 0 0), (15, slc false 1 1 0 11 none), (16, iI 11), (17, iI (IntKind.wrap IntKind.i64 (i + 1)))]) ([rows false 2 [[ptr 0 2 0 0, slc false 5 1 0 (k + List.length (nRows (↑(ByteArray.size (toStr (List.getD u1 j any))) : Int)) + List.length (byteRows (toStr (List.getD u1 j any)))) none]], rows false 1 (flQ 3 4), dead, rows true 2 [u0], rows true 9 [u1], trows 5 true 1 (bs ++ nRows (↑(ByteArray.size (toStr (List.getD u1 j any))) : Int) ++ byteRows (toStr (List.getD u1 j any)))])) ∧ (((nOk (↑(ByteArray.size (toStr (List.getD u1 j any))) : Int) = false) ∧ ((↑(ByteArray.size (toStr (List.getD u1 j any))) : Int) < 9223372036854775808)) → Q (AExit.pan 117) (mkR 148 [(0, ptr 0 2 0 0), (15, slc false 1 1 0 11 none), (16, iI 11), (17, iI i)]) ([dead, rows false 1 (flQ 3 4), dead, rows true 2 [u0], rows true 9 [u1]])) ∧ (((nOk (↑(ByteArray.size (toStr (List.getD u1 j any))) : Int) = true) ∧ (k = List.length bs) ∧ (List.length bs ≤ 70368744177664)) ∨ ((nOk (↑(ByteArray.size (toStr (List.getD u1 j any))) : Int) = false) ∧ ((↑(ByteArray.size (toStr (List.getD u1 j any))) : Int) < 9223372036854775808))))) ∧ (((decide ((↑(ByteArray.size (toStr (List.getD u1 j any))) : Int) ≤ 262144) = false)) → Q (AExit.pan 117) (mkR 148 [(0, ptr 0 2 0 0), (15, slc false 1 1 0 11 none), (16, iI 11), (17, iI i)]) ([rows false 2 [[ptr 0 2 0 0, slc false 5 1 0 k none]], rows false 1 (flQ 3 4), dead, rows true 2 [u0], rows true 9 [u1], trows 5 true 1 bs])) ∧ (((decide ((↑(ByteArray.size (toStr (List.getD u1 j any))) : Int) ≤ 262144) = true)) ∨ ((decide ((↑(ByteArray.size (toStr (List.getD u1 j any))) : Int) ≤ 262144) = false))))
theorem pQS1_wp (u0 u1 : List AVal) (i : Int) (j k : Nat) (bs : List (List AVal)) {Q : AExit → Regs → AState → Prop} (h : pQS1_T u0 u1 i j k bs Q) : ∃ e rg' σ', TripN Try.prog 5 (loopNo Try.f64 0) (rgpQ i) (hppQ u0 u1 k bs) e rg' σ' ∧ Q e rg' σ' :=
  Or.elim h.2.2.2.2.2.2.2.2 (fun (c0 : (decide ((↑(ByteArray.size (toStr (List.getD u1 j any))) : Int) ≤ 262144) = true)) => Or.elim (h.2.2.2.2.2.2.1 c0).2.2 (fun (c1 : (nOk (↑(ByteArray.size (toStr (List.getD u1 j any))) : Int) = true) ∧ (k = List.length bs) ∧ (List.length bs ≤ 70368744177664)) => ⟨_, _, _, pQS1_1 u0 u1 i j k bs (((h.2.2.2.2.2.2.1 c0).1 c1).1) (((h.2.2.2.2.2.2.1 c0).1 c1).2.1) (((h.2.2.2.2.2.2.1 c0).1 c1).2.2.1) (h.2.2.2.2.2.1) (h.2.2.2.2.1) (c1.1) (c1.2.1) (c1.2.2) (c0) (h.2.2.2.1) (h.2.2.1) (h.2.1) (h.1), ((h.2.2.2.2.2.2.1 c0).1 c1).2.2.2⟩) (fun (c2 : (nOk (↑(ByteArray.size (toStr (List.getD u1 j any))) : Int) = false) ∧ ((↑(ByteArray.size (toStr (List.getD u1 j any))) : Int) < 9223372036854775808)) => ⟨_, _, _, pQS1_2 u0 u1 i j k bs (c2.1) (c2.2) (h.2.2.2.2.2.1) (h.2.2.2.2.1) (c0) (h.2.2.2.1) (h.2.2.1) (h.2.1) (h.1), ((h.2.2.2.2.2.2.1 c0).2.1 c2)⟩)) (fun (c3 : (decide ((↑(ByteArray.size (toStr (List.getD u1 j any))) : Int) ≤ 262144) = false)) => ⟨_, _, _, pQS1_3 u0 u1 i j k bs (c3) (h.2.2.2.2.2.1) (h.2.2.2.2.1) (h.2.2.2.1) (h.2.2.1) (h.2.1) (h.1), (h.2.2.2.2.2.2.2.1 c3)⟩)


theorem pQX_1 (u0 u1 : List AVal) (i : Int) (k : Nat) (bs : List (List AVal))
    (h1 : decide (i < 11) = false) :
    TripN Try.prog 5 (loopNo Try.f64 0) (rgpQ i) (hppQ u0 u1 k bs) (AExit.exit 0) (mkR 148 [(0, ptr 0 2 0 0), (15, slc false 1 1 0 11 none), (16, iI 11), (17, iI i)]) ([rows false 2 [[ptr 0 2 0 0, slc false 5 1 0 k none]], rows false 1 (flQ 3 4), dead, rows true 2 [u0], rows true 9 [u1], trows 5 true 1 bs]) :=
  evalT (st := St.mk (rgpQ i) (hppQ u0 u1 k bs) ([Dec.br false]) []) (st' := St.mk (mkR 148 [(0, ptr 0 2 0 0), (15, slc false 1 1 0 11 none), (16, iI 11), (17, iI i), (18, tt false)]) ([rows false 2 [[ptr 0 2 0 0, slc false 5 1 0 k none]], rows false 1 (flQ 3 4), dead, rows true 2 [u0], rows true 9 [u1], trows 5 true 1 bs]) ([]) ((decide (i < 11) = false) :: [])) followed (by kernel_rfl) (allP_of ⟨h1, trivial⟩) (keepM 148 [0, 15, 16, 17]) ([0, 1, 2, 3, 4, 5]) (by kernel_rfl) (by kernel_rfl) (by kernel_rfl)

def pQX_T (u0 u1 : List AVal) (i : Int) (k : Nat) (bs : List (List AVal)) (Q : AExit → Regs → AState → Prop) : Prop := (decide (i < 11) = false) ∧ Q (AExit.exit 0) (mkR 148 [(0, ptr 0 2 0 0), (15, slc false 1 1 0 11 none), (16, iI 11), (17, iI i)]) ([rows false 2 [[ptr 0 2 0 0, slc false 5 1 0 k none]], rows false 1 (flQ 3 4), dead, rows true 2 [u0], rows true 9 [u1], trows 5 true 1 bs])
theorem pQX_wp (u0 u1 : List AVal) (i : Int) (k : Nat) (bs : List (List AVal)) {Q : AExit → Regs → AState → Prop} (h : pQX_T u0 u1 i k bs Q) : ∃ e rg' σ', TripN Try.prog 5 (loopNo Try.f64 0) (rgpQ i) (hppQ u0 u1 k bs) e rg' σ' ∧ Q e rg' σ' :=
  ⟨_, _, _, pQX_1 u0 u1 i k bs (h.1), h.2⟩


end Go.L12
end

section
set_option linter.unusedVariables false
set_option maxRecDepth 100000
namespace Go.L12
open Go Go.Abs Go.Abs.AVal Go.Abs.AObj Go.Proofs
def rgtQ (i : Int) : Regs := mkR 117 [(0, .ptr 0 1 0 0), (15, .slc false 1 1 0 11 none), (16, .int .i64 11), (17, .int .i64 i)]
abbrev hptQ (u0 u1 : List AVal) (s : ByteArray) : AState := [.rows true 1 [[.str s]], .rows false 1 (flQ 2 3), .rows true 2 [u0], .rows true 9 [u1]]
theorem tQI0_1 (u0 u1 : List AVal) (i : Int) (j : Nat) (s : ByteArray)
    (h1 : decide (j + 1 ≤ 2) = true)
    (h2 : tkOk s 1099511627776 = true)
    (h3 : asType Try.prog 20 [List.getD (List.getD (flQ 2 3) (Int.toNat i) []) 0 any] = iface 100 (ptr 2 2 0 j))
    (h4 : decide (Int.toNat i < 11) = true)
    (h5 : decide (0 ≤ i ∧ i < (↑11 : Int)) = true)
    (h6 : decide (i < 11) = true) :
    TripN Try.prog 4 (loopNo Try.f60 0) (rgtQ i) (hptQ u0 u1 s) (AExit.normal) (mkR 117 [(0, ptr 0 1 0 0), (15, slc false 1 1 0 11 none), (16, iI 11), (17, iI (IntKind.wrap IntKind.i64 (i + 1)))]) ([rows true 1 [[str (tkR s)]], rows false 1 (flQ 2 3), rows true 2 [setCells u0 j [iI (tkV s)]], rows true 9 [u1]]) :=
  evalT (st := St.mk (rgtQ i) (hptQ u0 u1 s) ([Dec.br true, Dec.rwl (iface 100 (ptr 2 2 0 j)), Dec.use [0] [ptr 0 1 0 0, iI 1099511627776] [rows true 1 [[str s]]] (iI (tkV s)) [rows true 1 [[str (tkR s)]]]]) []) (st' := St.mk (mkR 117 [(0, ptr 0 1 0 0), (5, iface 100 (ptr 2 2 0 j)), (6, ptr 2 2 0 j), (15, slc false 1 1 0 11 none), (16, iI 11), (17, iI (IntKind.wrap IntKind.i64 (i + 1))), (18, tt true), (19, ptr 1 1 (Int.toNat i) 0), (20, iface 100 (ptr 2 2 0 j)), (21, iface 100 (ptr 2 2 0 j)), (22, tuple [ptr 2 2 0 j, tt true]), (23, tt true), (24, ptr 2 2 0 j), (25, ptr 2 2 0 j), (26, ptr 0 1 0 0), (27, iI (tkV s)), (28, ptr 2 2 0 j), (116, iI (IntKind.wrap IntKind.i64 (i + 1)))]) ([rows true 1 [[str (tkR s)]], rows false 1 (flQ 2 3), rows true 2 [setCells u0 j [iI (tkV s)]], rows true 9 [u1]]) ([]) (tr 1 ++ ((decide (j + 1 ≤ 2) = true) :: ((oU 4 66 [0] [ptr 0 1 0 0, iI 1099511627776] [rows true 1 [[str s]], rows false 1 (flQ 2 3), rows true 2 [u0], rows true 9 [u1]] [ptr 0 1 0 0, iI 1099511627776] [rows true 1 [[str s]]] (iI (tkV s)) [rows true 1 [[str (tkR s)]]]) :: ((asType Try.prog 20 [List.getD (List.getD (flQ 2 3) (Int.toNat i) []) 0 any] = iface 100 (ptr 2 2 0 j)) :: ((decide (Int.toNat i < 11) = true) :: (tr 1 ++ ((decide (0 ≤ i ∧ i < (↑11 : Int)) = true) :: ((decide (i < 11) = true) :: []))))))))) followed (by kernel_rfl) (allP_of (trC 1 ⟨h1, ⟨⟨(@Go.L12.taken_ok (s) (1099511627776) h2), rfl, rfl, rfl⟩, ⟨h3, ⟨h4, (trC 1 ⟨h5, ⟨h6, trivial⟩⟩)⟩⟩⟩⟩)) (keepM 117 [0, 15, 16, 17]) ([0, 1, 2, 3]) (by kernel_rfl) (by kernel_rfl) (by kernel_rfl)

theorem tQI0_2 (u0 u1 : List AVal) (i : Int) (j : Nat) (s : ByteArray)
    (h1 : tkOk s 1099511627776 = false)
    (h2 : asType Try.prog 20 [List.getD (List.getD (flQ 2 3) (Int.toNat i) []) 0 any] = iface 100 (ptr 2 2 0 j))
    (h3 : decide (Int.toNat i < 11) = true)
    (h4 : decide (0 ≤ i ∧ i < (↑11 : Int)) = true)
    (h5 : decide (i < 11) = true) :
    TripN Try.prog 4 (loopNo Try.f60 0) (rgtQ i) (hptQ u0 u1 s) (AExit.pan 117) (mkR 117 [(0, ptr 0 1 0 0), (15, slc false 1 1 0 11 none), (16, iI 11), (17, iI i)]) ([dead, rows false 1 (flQ 2 3), rows true 2 [u0], rows true 9 [u1]]) :=
  evalT (st := St.mk (rgtQ i) (hptQ u0 u1 s) ([Dec.br true, Dec.rwl (iface 100 (ptr 2 2 0 j)), Dec.use [0] [ptr 0 1 0 0, iI 1099511627776] [rows true 1 [[str s]]] (pan 117) [dead]]) []) (st' := St.mk (mkR 117 [(0, ptr 0 1 0 0), (5, iface 100 (ptr 2 2 0 j)), (6, ptr 2 2 0 j), (15, slc false 1 1 0 11 none), (16, iI 11), (17, iI i), (18, tt true), (19, ptr 1 1 (Int.toNat i) 0), (20, iface 100 (ptr 2 2 0 j)), (21, iface 100 (ptr 2 2 0 j)), (22, tuple [ptr 2 2 0 j, tt true]), (23, tt true), (24, ptr 2 2 0 j), (25, ptr 2 2 0 j), (26, ptr 0 1 0 0)]) ([dead, rows false 1 (flQ 2 3), rows true 2 [u0], rows true 9 [u1]]) ([]) ((oU 4 66 [0] [ptr 0 1 0 0, iI 1099511627776] [rows true 1 [[str s]], rows false 1 (flQ 2 3), rows true 2 [u0], rows true 9 [u1]] [ptr 0 1 0 0, iI 1099511627776] [rows true 1 [[str s]]] (pan 117) [dead]) :: ((asType Try.prog 20 [List.getD (List.getD (flQ 2 3) (Int.toNat i) []) 0 any] = iface 100 (ptr 2 2 0 j)) :: ((decide (Int.toNat i < 11) = true) :: (tr 1 ++ ((decide (0 ≤ i ∧ i < (↑11 : Int)) = true) :: ((decide (i < 11) = true) :: []))))))) followed (by kernel_rfl) (allP_of ⟨⟨(@Go.L12.taken_no (s) (1099511627776) h1), rfl, rfl, rfl⟩, ⟨h2, ⟨h3, (trC 1 ⟨h4, ⟨h5, trivial⟩⟩)⟩⟩⟩) (keepM 117 [0, 15, 16, 17]) ([0, 1, 2, 3]) (by kernel_rfl) (by kernel_rfl) (by kernel_rfl)

def tQI0_T (u0 u1 : List AVal) (i : Int) (j : Nat) (s : ByteArray) (Q : AExit → Regs → AState → Prop) : Prop := (decide (i < 11) = true) ∧ (decide (0 ≤ i ∧ i < (↑11 : Int)) = true) ∧ (decide (Int.toNat i < 11) = true) ∧ (asType Try.prog 20 [List.getD (List.getD (flQ 2 3) (Int.toNat i) []) 0 any] = iface 100 (ptr 2 2 0 j)) ∧ ((((tkOk s 1099511627776 = true)) → (decide (j + 1 ≤ 2) = true) ∧ Q (AExit.normal) (mkR 117 [(0, ptr 0 1 0 0), (15, slc false 1 1 0 11 none), (16, iI 11), (17, iI (IntKind.wrap IntKind.i64 (i + 1)))]) ([rows true 1 [[str (tkR s)]], rows false 1 (flQ 2 3), rows true 2 [setCells u0 j [iI (tkV s)]], rows true 9 [u1]])) ∧ (((tkOk s 1099511627776 = false)) → Q (AExit.pan 117) (mkR 117 [(0, ptr 0 1 0 0), (15, slc false 1 1 0 11 none), (16, iI 11), (17, iI i)]) ([dead, rows false 1 (flQ 2 3), rows true 2 [u0], rows true 9 [u1]])) ∧ (((tkOk s 1099511627776 = true)) ∨ ((tkOk s 1099511627776 = false))))
theorem tQI0_wp (u0 u1 : List AVal) (i : Int) (j : Nat) (s : ByteArray) {Q : AExit → Regs → AState → Prop} (h : tQI0_T u0 u1 i j s Q) : ∃ e rg' σ', TripN Try.prog 4 (loopNo Try.f60 0) (rgtQ i) (hptQ u0 u1 s) e rg' σ' ∧ Q e rg' σ' :=
  Or.elim h.2.2.2.2.2.2 (fun (c0 : (tkOk s 1099511627776 = true)) => ⟨_, _, _, tQI0_1 u0 u1 i j s ((h.2.2.2.2.1 c0).1) (c0) (h.2.2.2.1) (h.2.2.1) (h.2.1) (h.1), (h.2.2.2.2.1 c0).2⟩) (fun (c1 : (tkOk s 1099511627776 = false)) => ⟨_, _, _, tQI0_2 u0 u1 i j s (c1) (h.2.2.2.1) (h.2.2.1) (h.2.1) (h.1), (h.2.2.2.2.2.1 c1)⟩)


theorem tQI1_1 (u0 u1 : List AVal) (i : Int) (j : Nat) (s : ByteArray)
    (h1 : decide (j + 1 ≤ 9) = true)
    (h2 : tkOk s 1099511627776 = true)
    (h3 : asType Try.prog 20 [List.getD (List.getD (flQ 2 3) (Int.toNat i) []) 0 any] = iface 100 (ptr 3 9 0 j))
    (h4 : decide (Int.toNat i < 11) = true)
    (h5 : decide (0 ≤ i ∧ i < (↑11 : Int)) = true)
    (h6 : decide (i < 11) = true) :
    TripN Try.prog 4 (loopNo Try.f60 0) (rgtQ i) (hptQ u0 u1 s) (AExit.normal) (mkR 117 [(0, ptr 0 1 0 0), (15, slc false 1 1 0 11 none), (16, iI 11), (17, iI (IntKind.wrap IntKind.i64 (i + 1)))]) ([rows true 1 [[str (tkR s)]], rows false 1 (flQ 2 3), rows true 2 [u0], rows true 9 [setCells u1 j [iI (tkV s)]]]) :=
  evalT (st := St.mk (rgtQ i) (hptQ u0 u1 s) ([Dec.br true, Dec.rwl (iface 100 (ptr 3 9 0 j)), Dec.use [0] [ptr 0 1 0 0, iI 1099511627776] [rows true 1 [[str s]]] (iI (tkV s)) [rows true 1 [[str (tkR s)]]]]) []) (st' := St.mk (mkR 117 [(0, ptr 0 1 0 0), (5, iface 100 (ptr 3 9 0 j)), (6, ptr 3 9 0 j), (15, slc false 1 1 0 11 none), (16, iI 11), (17, iI (IntKind.wrap IntKind.i64 (i + 1))), (18, tt true), (19, ptr 1 1 (Int.toNat i) 0), (20, iface 100 (ptr 3 9 0 j)), (21, iface 100 (ptr 3 9 0 j)), (22, tuple [ptr 3 9 0 j, tt true]), (23, tt true), (24, ptr 3 9 0 j), (25, ptr 3 9 0 j), (26, ptr 0 1 0 0), (27, iI (tkV s)), (28, ptr 3 9 0 j), (116, iI (IntKind.wrap IntKind.i64 (i + 1)))]) ([rows true 1 [[str (tkR s)]], rows false 1 (flQ 2 3), rows true 2 [u0], rows true 9 [setCells u1 j [iI (tkV s)]]]) ([]) (tr 1 ++ ((decide (j + 1 ≤ 9) = true) :: ((oU 4 66 [0] [ptr 0 1 0 0, iI 1099511627776] [rows true 1 [[str s]], rows false 1 (flQ 2 3), rows true 2 [u0], rows true 9 [u1]] [ptr 0 1 0 0, iI 1099511627776] [rows true 1 [[str s]]] (iI (tkV s)) [rows true 1 [[str (tkR s)]]]) :: ((asType Try.prog 20 [List.getD (List.getD (flQ 2 3) (Int.toNat i) []) 0 any] = iface 100 (ptr 3 9 0 j)) :: ((decide (Int.toNat i < 11) = true) :: (tr 1 ++ ((decide (0 ≤ i ∧ i < (↑11 : Int)) = true) :: ((decide (i < 11) = true) :: []))))))))) followed (by kernel_rfl) (allP_of (trC 1 ⟨h1, ⟨⟨(@Go.L12.taken_ok (s) (1099511627776) h2), rfl, rfl, rfl⟩, ⟨h3, ⟨h4, (trC 1 ⟨h5, ⟨h6, trivial⟩⟩)⟩⟩⟩⟩)) (keepM 117 [0, 15, 16, 17]) ([0, 1, 2, 3]) (by kernel_rfl) (by kernel_rfl) (by kernel_rfl)

theorem tQI1_2 (u0 u1 : List AVal) (i : Int) (j : Nat) (s : ByteArray)
    (h1 : tkOk s 1099511627776 = false)
    (h2 : asType Try.prog 20 [List.getD (List.getD (flQ 2 3) (Int.toNat i) []) 0 any] = iface 100 (ptr 3 9 0 j))
    (h3 : decide (Int.toNat i < 11) = true)
    (h4 : decide (0 ≤ i ∧ i < (↑11 : Int)) = true)
    (h5 : decide (i < 11) = true) :
    TripN Try.prog 4 (loopNo Try.f60 0) (rgtQ i) (hptQ u0 u1 s) (AExit.pan 117) (mkR 117 [(0, ptr 0 1 0 0), (15, slc false 1 1 0 11 none), (16, iI 11), (17, iI i)]) ([dead, rows false 1 (flQ 2 3), rows true 2 [u0], rows true 9 [u1]]) :=
  evalT (st := St.mk (rgtQ i) (hptQ u0 u1 s) ([Dec.br true, Dec.rwl (iface 100 (ptr 3 9 0 j)), Dec.use [0] [ptr 0 1 0 0, iI 1099511627776] [rows true 1 [[str s]]] (pan 117) [dead]]) []) (st' := St.mk (mkR 117 [(0, ptr 0 1 0 0), (5, iface 100 (ptr 3 9 0 j)), (6, ptr 3 9 0 j), (15, slc false 1 1 0 11 none), (16, iI 11), (17, iI i), (18, tt true), (19, ptr 1 1 (Int.toNat i) 0), (20, iface 100 (ptr 3 9 0 j)), (21, iface 100 (ptr 3 9 0 j)), (22, tuple [ptr 3 9 0 j, tt true]), (23, tt true), (24, ptr 3 9 0 j), (25, ptr 3 9 0 j), (26, ptr 0 1 0 0)]) ([dead, rows false 1 (flQ 2 3), rows true 2 [u0], rows true 9 [u1]]) ([]) ((oU 4 66 [0] [ptr 0 1 0 0, iI 1099511627776] [rows true 1 [[str s]], rows false 1 (flQ 2 3), rows true 2 [u0], rows true 9 [u1]] [ptr 0 1 0 0, iI 1099511627776] [rows true 1 [[str s]]] (pan 117) [dead]) :: ((asType Try.prog 20 [List.getD (List.getD (flQ 2 3) (Int.toNat i) []) 0 any] = iface 100 (ptr 3 9 0 j)) :: ((decide (Int.toNat i < 11) = true) :: (tr 1 ++ ((decide (0 ≤ i ∧ i < (↑11 : Int)) = true) :: ((decide (i < 11) = true) :: []))))))) followed (by kernel_rfl) (allP_of ⟨⟨(@Go.L12.taken_no (s) (1099511627776) h1), rfl, rfl, rfl⟩, ⟨h2, ⟨h3, (trC 1 ⟨h4, ⟨h5, trivial⟩⟩)⟩⟩⟩) (keepM 117 [0, 15, 16, 17]) ([0, 1, 2, 3]) (by kernel_rfl) (by kernel_rfl) (by kernel_rfl)

def tQI1_T (u0 u1 : List AVal) (i : Int) (j : Nat) (s : ByteArray) (Q : AExit → Regs → AState → Prop) : Prop := (decide (i < 11) = true) ∧ (decide (0 ≤ i ∧ i < (↑11 : Int)) = true) ∧ (decide (Int.toNat i < 11) = true) ∧ (asType Try.prog 20 [List.getD (List.getD (flQ 2 3) (Int.toNat i) []) 0 any] = iface 100 (ptr 3 9 0 j)) ∧ ((((tkOk s 1099511627776 = true)) → (decide (j + 1 ≤ 9) = true) ∧ Q (AExit.normal) (mkR 117 [(0, ptr 0 1 0 0), (15, slc false 1 1 0 11 none), (16, iI 11), (17, iI (IntKind.wrap IntKind.i64 (i + 1)))]) ([rows true 1 [[str (tkR s)]], rows false 1 (flQ 2 3), rows true 2 [u0], rows true 9 [setCells u1 j [iI (tkV s)]]])) ∧ (((tkOk s 1099511627776 = false)) → Q (AExit.pan 117) (mkR 117 [(0, ptr 0 1 0 0), (15, slc false 1 1 0 11 none), (16, iI 11), (17, iI i)]) ([dead, rows false 1 (flQ 2 3), rows true 2 [u0], rows true 9 [u1]])) ∧ (((tkOk s 1099511627776 = true)) ∨ ((tkOk s 1099511627776 = false))))
theorem tQI1_wp (u0 u1 : List AVal) (i : Int) (j : Nat) (s : ByteArray) {Q : AExit → Regs → AState → Prop} (h : tQI1_T u0 u1 i j s Q) : ∃ e rg' σ', TripN Try.prog 4 (loopNo Try.f60 0) (rgtQ i) (hptQ u0 u1 s) e rg' σ' ∧ Q e rg' σ' :=
  Or.elim h.2.2.2.2.2.2 (fun (c0 : (tkOk s 1099511627776 = true)) => ⟨_, _, _, tQI1_1 u0 u1 i j s ((h.2.2.2.2.1 c0).1) (c0) (h.2.2.2.1) (h.2.2.1) (h.2.1) (h.1), (h.2.2.2.2.1 c0).2⟩) (fun (c1 : (tkOk s 1099511627776 = false)) => ⟨_, _, _, tQI1_2 u0 u1 i j s (c1) (h.2.2.2.1) (h.2.2.1) (h.2.1) (h.1), (h.2.2.2.2.2.1 c1)⟩)


theorem tQS1_1 (u0 u1 : List AVal) (i : Int) (j : Nat) (s : ByteArray)
    (h1 : decide (j + 1 ≤ 9) = true)
    (h2 : decide (0 ≤ tkV s ∧ tkV s ≤ (↑(ByteArray.size (tkR s)) : Int) ∧ (↑(ByteArray.size (tkR s)) : Int) ≤ (↑(ByteArray.size (tkR s)) : Int)) = true)
    (h3 : decide (0 ≤ (↑0 : Int) ∧ (↑0 : Int) ≤ tkV s ∧ tkV s ≤ (↑(ByteArray.size (tkR s)) : Int)) = true)
    (h4 : decide (tkV s ≤ (↑(ByteArray.size (tkR s)) : Int)) = true)
    (h5 : tkOk s 262144 = true)
    (h6 : asType Try.prog 20 [List.getD (List.getD (flQ 2 3) (Int.toNat i) []) 0 any] = iface 104 (ptr 3 9 0 j))
    (h7 : decide (Int.toNat i < 11) = true)
    (h8 : decide (0 ≤ i ∧ i < (↑11 : Int)) = true)
    (h9 : decide (i < 11) = true) :
    TripN Try.prog 4 (loopNo Try.f60 0) (rgtQ i) (hptQ u0 u1 s) (AExit.normal) (mkR 117 [(0, ptr 0 1 0 0), (15, slc false 1 1 0 11 none), (16, iI 11), (17, iI (IntKind.wrap IntKind.i64 (i + 1)))]) ([rows true 1 [[str (ByteArray.extract (tkR s) (Int.toNat (tkV s)) (Int.toNat (↑(ByteArray.size (tkR s)) : Int)))]], rows false 1 (flQ 2 3), rows true 2 [u0], rows true 9 [setCells u1 j [str (ByteArray.extract (tkR s) 0 (Int.toNat (tkV s)))]]]) :=
  evalT (st := St.mk (rgtQ i) (hptQ u0 u1 s) ([Dec.br true, Dec.rwl (iface 104 (ptr 3 9 0 j)), Dec.use [0] [ptr 0 1 0 0, iI 262144] [rows true 1 [[str s]]] (iI (tkV s)) [rows true 1 [[str (tkR s)]]], Dec.use [] [bool (decide (tkV s ≤ (↑(ByteArray.size (tkR s)) : Int)))] [] (tuple []) []]) []) (st' := St.mk (mkR 117 [(0, ptr 0 1 0 0), (5, iface 104 (ptr 3 9 0 j)), (9, ptr 3 9 0 j), (10, iI (tkV s)), (15, slc false 1 1 0 11 none), (16, iI 11), (17, iI (IntKind.wrap IntKind.i64 (i + 1))), (18, tt true), (19, ptr 1 1 (Int.toNat i) 0), (20, iface 104 (ptr 3 9 0 j)), (21, iface 104 (ptr 3 9 0 j)), (22, tuple [nilp, tt false]), (23, tt false), (24, nilp), (29, tuple [nilp, tt false]), (30, tt false), (31, nilp), (36, tuple [nilp, tt false]), (37, tt false), (38, nilp), (44, tuple [ptr 3 9 0 j, tt true]), (45, tt true), (46, ptr 3 9 0 j), (47, ptr 0 1 0 0), (48, iI (tkV s)), (49, iI (tkV s)), (50, ptr 0 1 0 0), (51, ptr 0 1 0 0), (52, str (tkR s)), (53, iI (↑(ByteArray.size (tkR s)) : Int)), (54, bool (decide (tkV s ≤ (↑(ByteArray.size (tkR s)) : Int)))), (55, tuple []), (56, ptr 3 9 0 j), (57, ptr 0 1 0 0), (58, ptr 0 1 0 0), (59, ptr 0 1 0 0), (60, str (tkR s)), (61, iI (tkV s)), (62, str (ByteArray.extract (tkR s) 0 (Int.toNat (tkV s)))), (63, ptr 0 1 0 0), (64, ptr 0 1 0 0), (65, str (tkR s)), (66, iI (tkV s)), (67, str (ByteArray.extract (tkR s) (Int.toNat (tkV s)) (Int.toNat (↑(ByteArray.size (tkR s)) : Int)))), (68, ptr 3 9 0 j), (69, ptr 0 1 0 0), (116, iI (IntKind.wrap IntKind.i64 (i + 1)))]) ([rows true 1 [[str (ByteArray.extract (tkR s) (Int.toNat (tkV s)) (Int.toNat (↑(ByteArray.size (tkR s)) : Int)))]], rows false 1 (flQ 2 3), rows true 2 [u0], rows true 9 [setCells u1 j [str (ByteArray.extract (tkR s) 0 (Int.toNat (tkV s)))]]]) ([]) (tr 12 ++ ((decide (j + 1 ≤ 9) = true) :: (tr 4 ++ ((decide (0 ≤ tkV s ∧ tkV s ≤ (↑(ByteArray.size (tkR s)) : Int) ∧ (↑(ByteArray.size (tkR s)) : Int) ≤ (↑(ByteArray.size (tkR s)) : Int)) = true) :: (tr 20 ++ ((decide (0 ≤ (↑0 : Int) ∧ (↑0 : Int) ≤ tkV s ∧ tkV s ≤ (↑(ByteArray.size (tkR s)) : Int)) = true) :: (tr 18 ++ ((oU 4 58 [] [bool (decide (tkV s ≤ (↑(ByteArray.size (tkR s)) : Int)))] [rows true 1 [[str (tkR s)]], rows false 1 (flQ 2 3), rows true 2 [u0], rows true 9 [u1]] [bool (decide (tkV s ≤ (↑(ByteArray.size (tkR s)) : Int)))] [] (tuple []) []) :: (tr 3 ++ ((oU 4 66 [0] [ptr 0 1 0 0, iI 262144] [rows true 1 [[str s]], rows false 1 (flQ 2 3), rows true 2 [u0], rows true 9 [u1]] [ptr 0 1 0 0, iI 262144] [rows true 1 [[str s]]] (iI (tkV s)) [rows true 1 [[str (tkR s)]]]) :: ((asType Try.prog 20 [List.getD (List.getD (flQ 2 3) (Int.toNat i) []) 0 any] = iface 104 (ptr 3 9 0 j)) :: ((decide (Int.toNat i < 11) = true) :: (tr 1 ++ ((decide (0 ≤ i ∧ i < (↑11 : Int)) = true) :: ((decide (i < 11) = true) :: [])))))))))))))))) followed (by kernel_rfl) (allP_of (trC 12 ⟨h1, (trC 4 ⟨h2, (trC 20 ⟨h3, (trC 18 ⟨⟨(@Go.L12.right_ok (decide (tkV s ≤ (↑(ByteArray.size (tkR s)) : Int))) h4), rfl, rfl, rfl⟩, (trC 3 ⟨⟨(@Go.L12.taken_ok (s) (262144) h5), rfl, rfl, rfl⟩, ⟨h6, ⟨h7, (trC 1 ⟨h8, ⟨h9, trivial⟩⟩)⟩⟩⟩)⟩)⟩)⟩)⟩)) (keepM 117 [0, 15, 16, 17]) ([0, 1, 2, 3]) (by kernel_rfl) (by kernel_rfl) (by kernel_rfl)

theorem tQS1_2 (u0 u1 : List AVal) (i : Int) (j : Nat) (s : ByteArray)
    (h1 : decide (tkV s ≤ (↑(ByteArray.size (tkR s)) : Int)) = false)
    (h2 : tkOk s 262144 = true)
    (h3 : asType Try.prog 20 [List.getD (List.getD (flQ 2 3) (Int.toNat i) []) 0 any] = iface 104 (ptr 3 9 0 j))
    (h4 : decide (Int.toNat i < 11) = true)
    (h5 : decide (0 ≤ i ∧ i < (↑11 : Int)) = true)
    (h6 : decide (i < 11) = true) :
    TripN Try.prog 4 (loopNo Try.f60 0) (rgtQ i) (hptQ u0 u1 s) (AExit.pan 117) (mkR 117 [(0, ptr 0 1 0 0), (15, slc false 1 1 0 11 none), (16, iI 11), (17, iI i)]) ([rows true 1 [[str (tkR s)]], rows false 1 (flQ 2 3), rows true 2 [u0], rows true 9 [u1]]) :=
  evalT (st := St.mk (rgtQ i) (hptQ u0 u1 s) ([Dec.br true, Dec.rwl (iface 104 (ptr 3 9 0 j)), Dec.use [0] [ptr 0 1 0 0, iI 262144] [rows true 1 [[str s]]] (iI (tkV s)) [rows true 1 [[str (tkR s)]]], Dec.use [] [bool (decide (tkV s ≤ (↑(ByteArray.size (tkR s)) : Int)))] [] (pan 117) []]) []) (st' := St.mk (mkR 117 [(0, ptr 0 1 0 0), (5, iface 104 (ptr 3 9 0 j)), (9, ptr 3 9 0 j), (10, iI (tkV s)), (15, slc false 1 1 0 11 none), (16, iI 11), (17, iI i), (18, tt true), (19, ptr 1 1 (Int.toNat i) 0), (20, iface 104 (ptr 3 9 0 j)), (21, iface 104 (ptr 3 9 0 j)), (22, tuple [nilp, tt false]), (23, tt false), (24, nilp), (29, tuple [nilp, tt false]), (30, tt false), (31, nilp), (36, tuple [nilp, tt false]), (37, tt false), (38, nilp), (44, tuple [ptr 3 9 0 j, tt true]), (45, tt true), (46, ptr 3 9 0 j), (47, ptr 0 1 0 0), (48, iI (tkV s)), (49, iI (tkV s)), (50, ptr 0 1 0 0), (51, ptr 0 1 0 0), (52, str (tkR s)), (53, iI (↑(ByteArray.size (tkR s)) : Int)), (54, bool (decide (tkV s ≤ (↑(ByteArray.size (tkR s)) : Int))))]) ([rows true 1 [[str (tkR s)]], rows false 1 (flQ 2 3), rows true 2 [u0], rows true 9 [u1]]) ([]) ((oU 4 58 [] [bool (decide (tkV s ≤ (↑(ByteArray.size (tkR s)) : Int)))] [rows true 1 [[str (tkR s)]], rows false 1 (flQ 2 3), rows true 2 [u0], rows true 9 [u1]] [bool (decide (tkV s ≤ (↑(ByteArray.size (tkR s)) : Int)))] [] (pan 117) []) :: (tr 3 ++ ((oU 4 66 [0] [ptr 0 1 0 0, iI 262144] [rows true 1 [[str s]], rows false 1 (flQ 2 3), rows true 2 [u0], rows true 9 [u1]] [ptr 0 1 0 0, iI 262144] [rows true 1 [[str s]]] (iI (tkV s)) [rows true 1 [[str (tkR s)]]]) :: ((asType Try.prog 20 [List.getD (List.getD (flQ 2 3) (Int.toNat i) []) 0 any] = iface 104 (ptr 3 9 0 j)) :: ((decide (Int.toNat i < 11) = true) :: (tr 1 ++ ((decide (0 ≤ i ∧ i < (↑11 : Int)) = true) :: ((decide (i < 11) = true) :: []))))))))) followed (by kernel_rfl) (allP_of ⟨⟨(@Go.L12.right_no (decide (tkV s ≤ (↑(ByteArray.size (tkR s)) : Int))) h1), rfl, rfl, rfl⟩, (trC 3 ⟨⟨(@Go.L12.taken_ok (s) (262144) h2), rfl, rfl, rfl⟩, ⟨h3, ⟨h4, (trC 1 ⟨h5, ⟨h6, trivial⟩⟩)⟩⟩⟩)⟩) (keepM 117 [0, 15, 16, 17]) ([0, 1, 2, 3]) (by kernel_rfl) (by kernel_rfl) (by kernel_rfl)

theorem tQS1_3 (u0 u1 : List AVal) (i : Int) (j : Nat) (s : ByteArray)
    (h1 : tkOk s 262144 = false)
    (h2 : asType Try.prog 20 [List.getD (List.getD (flQ 2 3) (Int.toNat i) []) 0 any] = iface 104 (ptr 3 9 0 j))
    (h3 : decide (Int.toNat i < 11) = true)
    (h4 : decide (0 ≤ i ∧ i < (↑11 : Int)) = true)
    (h5 : decide (i < 11) = true) :
    TripN Try.prog 4 (loopNo Try.f60 0) (rgtQ i) (hptQ u0 u1 s) (AExit.pan 117) (mkR 117 [(0, ptr 0 1 0 0), (15, slc false 1 1 0 11 none), (16, iI 11), (17, iI i)]) ([dead, rows false 1 (flQ 2 3), rows true 2 [u0], rows true 9 [u1]]) :=
  evalT (st := St.mk (rgtQ i) (hptQ u0 u1 s) ([Dec.br true, Dec.rwl (iface 104 (ptr 3 9 0 j)), Dec.use [0] [ptr 0 1 0 0, iI 262144] [rows true 1 [[str s]]] (pan 117) [dead]]) []) (st' := St.mk (mkR 117 [(0, ptr 0 1 0 0), (5, iface 104 (ptr 3 9 0 j)), (9, ptr 3 9 0 j), (15, slc false 1 1 0 11 none), (16, iI 11), (17, iI i), (18, tt true), (19, ptr 1 1 (Int.toNat i) 0), (20, iface 104 (ptr 3 9 0 j)), (21, iface 104 (ptr 3 9 0 j)), (22, tuple [nilp, tt false]), (23, tt false), (24, nilp), (29, tuple [nilp, tt false]), (30, tt false), (31, nilp), (36, tuple [nilp, tt false]), (37, tt false), (38, nilp), (44, tuple [ptr 3 9 0 j, tt true]), (45, tt true), (46, ptr 3 9 0 j), (47, ptr 0 1 0 0)]) ([dead, rows false 1 (flQ 2 3), rows true 2 [u0], rows true 9 [u1]]) ([]) ((oU 4 66 [0] [ptr 0 1 0 0, iI 262144] [rows true 1 [[str s]], rows false 1 (flQ 2 3), rows true 2 [u0], rows true 9 [u1]] [ptr 0 1 0 0, iI 262144] [rows true 1 [[str s]]] (pan 117) [dead]) :: ((asType Try.prog 20 [List.getD (List.getD (flQ 2 3) (Int.toNat i) []) 0 any] = iface 104 (ptr 3 9 0 j)) :: ((decide (Int.toNat i < 11) = true) :: (tr 1 ++ ((decide (0 ≤ i ∧ i < (↑11 : Int)) = true) :: ((decide (i < 11) = true) :: []))))))) followed (by kernel_rfl) (allP_of ⟨⟨(@Go.L12.taken_no (s) (262144) h1), rfl, rfl, rfl⟩, ⟨h2, ⟨h3, (trC 1 ⟨h4, ⟨h5, trivial⟩⟩)⟩⟩⟩) (keepM 117 [0, 15, 16, 17]) ([0, 1, 2, 3]) (by kernel_rfl) (by kernel_rfl) (by kernel_rfl)

def tQS1_T (u0 u1 : List AVal) (i : Int) (j : Nat) (s : ByteArray) (Q : AExit → Regs → AState → Prop) : Prop := (decide (i < 11) = true) ∧ (decide (0 ≤ i ∧ i < (↑11 : Int)) = true) ∧ (decide (Int.toNat i < 11) = true) ∧ (asType Try.prog 20 [List.getD (List.getD (flQ 2 3) (Int.toNat i) []) 0 any] = iface 104 (ptr 3 9 0 j)) ∧ ((((tkOk s 262144 = true)) → ((((decide (tkV s ≤ (↑(ByteArray.size (tkR s)) : Int)) = true)) → (decide (0 ≤ (↑0 : Int) ∧ (↑0 : Int) ≤ tkV s ∧ tkV s ≤ (↑(ByteArray.size (tkR s)) : Int)) = true) ∧ (decide (0 ≤ tkV s ∧ tkV s ≤ (↑(ByteArray.size (tkR s)) : Int) ∧ (↑(ByteArray.size (tkR s)) : Int) ≤ (↑(ByteArray.size (tkR s)) : Int)) = true) ∧ (decide (j + 1 ≤ 9) = true) ∧ Q (AExit.normal) (mkR 117 [(0, ptr 0 1 0 0), (15, slc false 1 1 0 11 none), (16, iI 11), (17, iI (IntKind.wrap IntKind.i64 (i + 1)))]) ([rows true 1 [[str (ByteArray.extract (tkR s) (Int.toNat (tkV s)) (Int.toNat (↑(ByteArray.size (tkR s)) : Int)))]], rows false 1 (flQ 2 3), rows true 2 [u0], rows true 9 [setCells u1 j [str (ByteArray.extract (tkR s) 0 (Int.toNat (tkV s)))]]])) ∧ (((decide (tkV s ≤ (↑(ByteArray.size (tkR s)) : Int)) = false)) → Q (AExit.pan 117) (mkR 117 [(0, ptr 0 1 0 0), (15, slc false 1 1 0 11 none), (16, iI 11), (17, iI i)]) ([rows true 1 [[str (tkR s)]], rows false 1 (flQ 2 3), rows true 2 [u0], rows true 9 [u1]])) ∧ (((decide (tkV s ≤ (↑(ByteArray.size (tkR s)) : Int)) = true)) ∨ ((decide (tkV s ≤ (↑(ByteArray.size (tkR s)) : Int)) = false))))) ∧ (((tkOk s 262144 = false)) → Q (AExit.pan 117) (mkR 117 [(0, ptr 0 1 0 0), (15, slc false 1 1 0 11 none), (16, iI 11), (17, iI i)]) ([dead, rows false 1 (flQ 2 3), rows true 2 [u0], rows true 9 [u1]])) ∧ (((tkOk s 262144 = true)) ∨ ((tkOk s 262144 = false))))
theorem tQS1_wp (u0 u1 : List AVal) (i : Int) (j : Nat) (s : ByteArray) {Q : AExit → Regs → AState → Prop} (h : tQS1_T u0 u1 i j s Q) : ∃ e rg' σ', TripN Try.prog 4 (loopNo Try.f60 0) (rgtQ i) (hptQ u0 u1 s) e rg' σ' ∧ Q e rg' σ' :=
  Or.elim h.2.2.2.2.2.2 (fun (c0 : (tkOk s 262144 = true)) => Or.elim (h.2.2.2.2.1 c0).2.2 (fun (c1 : (decide (tkV s ≤ (↑(ByteArray.size (tkR s)) : Int)) = true)) => ⟨_, _, _, tQS1_1 u0 u1 i j s (((h.2.2.2.2.1 c0).1 c1).2.2.1) (((h.2.2.2.2.1 c0).1 c1).2.1) (((h.2.2.2.2.1 c0).1 c1).1) (c1) (c0) (h.2.2.2.1) (h.2.2.1) (h.2.1) (h.1), ((h.2.2.2.2.1 c0).1 c1).2.2.2⟩) (fun (c2 : (decide (tkV s ≤ (↑(ByteArray.size (tkR s)) : Int)) = false)) => ⟨_, _, _, tQS1_2 u0 u1 i j s (c2) (c0) (h.2.2.2.1) (h.2.2.1) (h.2.1) (h.1), ((h.2.2.2.2.1 c0).2.1 c2)⟩)) (fun (c3 : (tkOk s 262144 = false)) => ⟨_, _, _, tQS1_3 u0 u1 i j s (c3) (h.2.2.2.1) (h.2.2.1) (h.2.1) (h.1), (h.2.2.2.2.2.1 c3)⟩)


theorem tQX_1 (u0 u1 : List AVal) (i : Int) (s : ByteArray)
    (h1 : decide (i < 11) = false) :
    TripN Try.prog 4 (loopNo Try.f60 0) (rgtQ i) (hptQ u0 u1 s) (AExit.exit 0) (mkR 117 [(0, ptr 0 1 0 0), (15, slc false 1 1 0 11 none), (16, iI 11), (17, iI i)]) ([rows true 1 [[str s]], rows false 1 (flQ 2 3), rows true 2 [u0], rows true 9 [u1]]) :=
  evalT (st := St.mk (rgtQ i) (hptQ u0 u1 s) ([Dec.br false]) []) (st' := St.mk (mkR 117 [(0, ptr 0 1 0 0), (15, slc false 1 1 0 11 none), (16, iI 11), (17, iI i), (18, tt false)]) ([rows true 1 [[str s]], rows false 1 (flQ 2 3), rows true 2 [u0], rows true 9 [u1]]) ([]) ((decide (i < 11) = false) :: [])) followed (by kernel_rfl) (allP_of ⟨h1, trivial⟩) (keepM 117 [0, 15, 16, 17]) ([0, 1, 2, 3]) (by kernel_rfl) (by kernel_rfl) (by kernel_rfl)

def tQX_T (u0 u1 : List AVal) (i : Int) (s : ByteArray) (Q : AExit → Regs → AState → Prop) : Prop := (decide (i < 11) = false) ∧ Q (AExit.exit 0) (mkR 117 [(0, ptr 0 1 0 0), (15, slc false 1 1 0 11 none), (16, iI 11), (17, iI i)]) ([rows true 1 [[str s]], rows false 1 (flQ 2 3), rows true 2 [u0], rows true 9 [u1]])
theorem tQX_wp (u0 u1 : List AVal) (i : Int) (s : ByteArray) {Q : AExit → Regs → AState → Prop} (h : tQX_T u0 u1 i s Q) : ∃ e rg' σ', TripN Try.prog 4 (loopNo Try.f60 0) (rgtQ i) (hptQ u0 u1 s) e rg' σ' ∧ Q e rg' σ' :=
  ⟨_, _, _, tQX_1 u0 u1 i s (h.1), h.2⟩


end Go.L12
end

section
set_option linter.unusedVariables false
set_option linter.unusedSimpArgs false
set_option maxRecDepth 100000
namespace Go.L12
open Go Go.Abs Go.Proofs

def FQ : List (Nat × Nat × Nat) := [(100, 0, 0), (100, 0, 1), (100, 1, 0), (104, 1, 1), (104, 1, 2), (104, 1, 3), (104, 1, 4), (104, 1, 5), (104, 1, 6), (100, 1, 7), (100, 1, 8)]
abbrev flQp : List (List AVal) := (flQ 3 4)
abbrev flQt : List (List AVal) := (flQ 2 3)
theorem pQI0_r (u0 u1 : List AVal) (i j : Nat) (hi : i < 11) (hfl : asType Try.prog 20 [List.getD (List.getD flQp i []) 0 .any] = .iface 100 (.ptr 3 2 0 j)) (hj : j + 1 ≤ 2) (hk : oI (u0.getD j .any)) (l : List UInt8) (hl : l.length ≤ 35184372088832) :
    (∀ b, putF 100 (u0.getD j .any) = some b → TripN Try.prog 5 (loopNo Try.f64 0) (rgpQ (i : Nat)) (hppQ u0 u1 l.length (rowsL l)) .normal (rgpQ ((i + 1 : Nat) : Int)) (hppQ u0 u1 (l ++ b).length (rowsL (l ++ b)))) ∧ (putF 100 (u0.getD j .any) = none → ∃ rg' σ', TripN Try.prog 5 (loopNo Try.f64 0) (rgpQ (i : Nat)) (hppQ u0 u1 l.length (rowsL l)) (.pan 117) rg' σ') := by
  have w1 : IntKind.wrap .i64 ((i : Int) + 1) = ((i + 1 : Nat) : Int) := by rw [wrapS (by omega) (by omega)]; omega
  have hlr : (rowsL l).length = l.length := List.length_map _
  obtain ⟨v, hn, hv1, hv2⟩ := hk
  rw [hn]
  refine ⟨fun b hb => TripN.wp (pQI0_wp u0 u1 i j l.length (rowsL l) ?_), fun hb => TripN.wpE (pQI0_wp u0 u1 i j l.length (rowsL l) ?_)⟩
  · unfold pQI0_T
    rw [Int.toNat_natCast, w1, hn]
    simp only [AVal.toInt]
    have hb : pI v = some b := hb
    unfold pI at hb
    split at hb
    · rename_i ho
      cases hb
      refine ⟨decide_eq_true (by omega), decide_eq_true (by omega), decide_eq_true (by omega), hfl, rfl, decide_eq_true (by omega), fun _ => ⟨by trivial, by first | rfl | trivial, ?_⟩, fun c => absurd c.1 (by rw [ho]; simp), .inl ⟨ho, hlr.symm, by rw [hlr]; omega⟩⟩
      rw [nRows_rowsL, rowsL_append, List.length_append, List.length_map]
    · cases hb
  · unfold pQI0_T
    rw [Int.toNat_natCast, w1, hn]
    simp only [AVal.toInt]
    have hb : pI v = none := hb
    unfold pI at hb
    split at hb
    · cases hb
    · rename_i ho
      have ho : nOk v = false := by simpa using ho
      exact ⟨decide_eq_true (by omega), decide_eq_true (by omega), decide_eq_true (by omega), hfl, rfl, decide_eq_true (by omega), fun c => absurd c.1 (by rw [ho]; simp), fun _ => by trivial, .inr ⟨ho, hv2⟩⟩

theorem pQI1_r (u0 u1 : List AVal) (i j : Nat) (hi : i < 11) (hfl : asType Try.prog 20 [List.getD (List.getD flQp i []) 0 .any] = .iface 100 (.ptr 4 9 0 j)) (hj : j + 1 ≤ 9) (hk : oI (u1.getD j .any)) (l : List UInt8) (hl : l.length ≤ 35184372088832) :
    (∀ b, putF 100 (u1.getD j .any) = some b → TripN Try.prog 5 (loopNo Try.f64 0) (rgpQ (i : Nat)) (hppQ u0 u1 l.length (rowsL l)) .normal (rgpQ ((i + 1 : Nat) : Int)) (hppQ u0 u1 (l ++ b).length (rowsL (l ++ b)))) ∧ (putF 100 (u1.getD j .any) = none → ∃ rg' σ', TripN Try.prog 5 (loopNo Try.f64 0) (rgpQ (i : Nat)) (hppQ u0 u1 l.length (rowsL l)) (.pan 117) rg' σ') := by
  have w1 : IntKind.wrap .i64 ((i : Int) + 1) = ((i + 1 : Nat) : Int) := by rw [wrapS (by omega) (by omega)]; omega
  have hlr : (rowsL l).length = l.length := List.length_map _
  obtain ⟨v, hn, hv1, hv2⟩ := hk
  rw [hn]
  refine ⟨fun b hb => TripN.wp (pQI1_wp u0 u1 i j l.length (rowsL l) ?_), fun hb => TripN.wpE (pQI1_wp u0 u1 i j l.length (rowsL l) ?_)⟩
  · unfold pQI1_T
    rw [Int.toNat_natCast, w1, hn]
    simp only [AVal.toInt]
    have hb : pI v = some b := hb
    unfold pI at hb
    split at hb
    · rename_i ho
      cases hb
      refine ⟨decide_eq_true (by omega), decide_eq_true (by omega), decide_eq_true (by omega), hfl, rfl, decide_eq_true (by omega), fun _ => ⟨by trivial, by first | rfl | trivial, ?_⟩, fun c => absurd c.1 (by rw [ho]; simp), .inl ⟨ho, hlr.symm, by rw [hlr]; omega⟩⟩
      rw [nRows_rowsL, rowsL_append, List.length_append, List.length_map]
    · cases hb
  · unfold pQI1_T
    rw [Int.toNat_natCast, w1, hn]
    simp only [AVal.toInt]
    have hb : pI v = none := hb
    unfold pI at hb
    split at hb
    · cases hb
    · rename_i ho
      have ho : nOk v = false := by simpa using ho
      exact ⟨decide_eq_true (by omega), decide_eq_true (by omega), decide_eq_true (by omega), hfl, rfl, decide_eq_true (by omega), fun c => absurd c.1 (by rw [ho]; simp), fun _ => by trivial, .inr ⟨ho, hv2⟩⟩

theorem pQS1_r (u0 u1 : List AVal) (i j : Nat) (hi : i < 11) (hfl : asType Try.prog 20 [List.getD (List.getD flQp i []) 0 .any] = .iface 104 (.ptr 4 9 0 j)) (hj : j + 1 ≤ 9) (hk : (∃ s, u1.getD j .any = .str s)) (l : List UInt8) (hl : l.length ≤ 35184372088832) :
    (∀ b, putF 104 (u1.getD j .any) = some b → TripN Try.prog 5 (loopNo Try.f64 0) (rgpQ (i : Nat)) (hppQ u0 u1 l.length (rowsL l)) .normal (rgpQ ((i + 1 : Nat) : Int)) (hppQ u0 u1 (l ++ b).length (rowsL (l ++ b)))) ∧ (putF 104 (u1.getD j .any) = none → ∃ rg' σ', TripN Try.prog 5 (loopNo Try.f64 0) (rgpQ (i : Nat)) (hppQ u0 u1 l.length (rowsL l)) (.pan 117) rg' σ') := by
  have w1 : IntKind.wrap .i64 ((i : Int) + 1) = ((i + 1 : Nat) : Int) := by rw [wrapS (by omega) (by omega)]; omega
  have hlr : (rowsL l).length = l.length := List.length_map _
  obtain ⟨v, hn⟩ := hk
  rw [hn]
  refine ⟨fun b hb => TripN.wp (pQS1_wp u0 u1 i j l.length (rowsL l) ?_), fun hb => TripN.wpE (pQS1_wp u0 u1 i j l.length (rowsL l) ?_)⟩
  · unfold pQS1_T
    rw [Int.toNat_natCast, w1, hn]
    simp only [AVal.toStr]
    have hb : pS v = some b := hb
    unfold pS at hb
    split at hb
    · rename_i ho
      cases hb
      have h9 := nRows_len (n := (v.size : Int)) (by omega)
      have hok : nOk (v.size : Int) = true := decide_eq_true ⟨by omega, by omega⟩
      refine ⟨decide_eq_true (by omega), decide_eq_true (by omega), decide_eq_true (by omega), hfl, rfl, decide_eq_true (by omega), fun _ => ⟨fun _ => ⟨by rw [List.length_append, hlr], ho, by rw [List.length_append, hlr]; omega, by trivial, by first | rfl | trivial, ?_⟩, fun c => absurd c.1 (by rw [hok]; simp), .inl ⟨hok, hlr.symm, by rw [hlr]; omega⟩⟩, fun c => absurd (of_decide_eq_false c) (by omega), .inl (decide_eq_true (by omega))⟩
      rw [nRows_rowsL, byteRows_rowsL, rowsL_append, rowsL_append, List.length_map, List.length_map, Int.toNat_natCast, List.length_append, List.length_append, List.append_assoc, Nat.add_assoc]
    · cases hb
  · unfold pQS1_T
    rw [Int.toNat_natCast, w1, hn]
    simp only [AVal.toStr]
    have hb : pS v = none := hb
    unfold pS at hb
    split at hb
    · cases hb
    · rename_i ho
      exact ⟨decide_eq_true (by omega), decide_eq_true (by omega), decide_eq_true (by omega), hfl, rfl, decide_eq_true (by omega), fun c => absurd (of_decide_eq_true c) (by omega), fun _ => by trivial, .inr (decide_eq_false (by omega))⟩

def objQ (u0 u1 : List AVal) (o : Nat) : List AVal := if o = 0 then u0 else u1
def fpQ (u0 u1 : List AVal) (i : Nat) : Option (List UInt8) := putF (FQ.getD i (0, 0, 0)).1 ((objQ u0 u1 (FQ.getD i (0, 0, 0)).2.1).getD (FQ.getD i (0, 0, 0)).2.2 .any)
def kQ (u0 u1 : List AVal) : Prop := ∀ i, i < 11 → kF (FQ.getD i (0, 0, 0)).1 ((objQ u0 u1 (FQ.getD i (0, 0, 0)).2.1).getD (FQ.getD i (0, 0, 0)).2.2 .any)
theorem pQ_round (u0 u1 : List AVal) (hk : kQ u0 u1) : ∀ i, i < 11 → ∀ l : List UInt8, l.length ≤ 17592186044416 + i * 40000000 → (∀ b, fpQ u0 u1 i = some b → TripN Try.prog 5 (loopNo Try.f64 0) (rgpQ (i : Nat)) (hppQ u0 u1 l.length (rowsL l)) .normal (rgpQ ((i + 1 : Nat) : Int)) (hppQ u0 u1 (l ++ b).length (rowsL (l ++ b)))) ∧ (fpQ u0 u1 i = none → ∃ rg' σ', TripN Try.prog 5 (loopNo Try.f64 0) (rgpQ (i : Nat)) (hppQ u0 u1 l.length (rowsL l)) (.pan 117) rg' σ')
  | 0, hi, l, hl => pQI0_r u0 u1 0 0 hi (by kernel_rfl) (by omega) (hk 0 (by omega)) l (by omega)
  | 1, hi, l, hl => pQI0_r u0 u1 1 1 hi (by kernel_rfl) (by omega) (hk 1 (by omega)) l (by omega)
  | 2, hi, l, hl => pQI1_r u0 u1 2 0 hi (by kernel_rfl) (by omega) (hk 2 (by omega)) l (by omega)
  | 3, hi, l, hl => pQS1_r u0 u1 3 1 hi (by kernel_rfl) (by omega) (hk 3 (by omega)) l (by omega)
  | 4, hi, l, hl => pQS1_r u0 u1 4 2 hi (by kernel_rfl) (by omega) (hk 4 (by omega)) l (by omega)
  | 5, hi, l, hl => pQS1_r u0 u1 5 3 hi (by kernel_rfl) (by omega) (hk 5 (by omega)) l (by omega)
  | 6, hi, l, hl => pQS1_r u0 u1 6 4 hi (by kernel_rfl) (by omega) (hk 6 (by omega)) l (by omega)
  | 7, hi, l, hl => pQS1_r u0 u1 7 5 hi (by kernel_rfl) (by omega) (hk 7 (by omega)) l (by omega)
  | 8, hi, l, hl => pQS1_r u0 u1 8 6 hi (by kernel_rfl) (by omega) (hk 8 (by omega)) l (by omega)
  | 9, hi, l, hl => pQI1_r u0 u1 9 7 hi (by kernel_rfl) (by omega) (hk 9 (by omega)) l (by omega)
  | 10, hi, l, hl => pQI1_r u0 u1 10 8 hi (by kernel_rfl) (by omega) (hk 10 (by omega)) l (by omega)
  | n + 11, hi, l, hl => absurd hi (by omega)
theorem putsQ_ok (u0 u1 : List AVal) (hk : kQ u0 u1) (l b : List UInt8) (hl : l.length ≤ 17592186044416) (hb : seqO (fpQ u0 u1) 11 0 = some b) :
    FOk Try.prog 64 [.ptr 0 2 0 0, .slc false 1 1 0 11 none] [.rows false 2 [[.ptr 0 2 0 0, .slc false 2 1 0 l.length none]], .rows false 1 flQp, .trows 5 true 1 (rowsL l), .rows true 2 [u0], .rows true 9 [u1]] (.tuple []) [.rows false 2 [[.ptr 0 2 0 0, .slc false 5 1 0 (l ++ b).length none]], .rows false 1 flQp, .dead, .rows true 2 [u0], .rows true 9 [u1], .trows 5 true 1 (rowsL (l ++ b))] := by
  have r := (puts_run (c := loopNo Try.f64 0) 11 (fun i => rgpQ (i : Nat)) (fun l => hppQ u0 u1 l.length (rowsL l)) (fpQ u0 u1) 17592186044416 40000000 0 (fun i b h => putF_len h) (fun l => TripN.wp (pQX_wp u0 u1 11 l.length (rowsL l) ⟨by kernel_rfl, rfl, rfl, rfl⟩)) (pQ_round u0 u1 hk) 11 0 (by omega) l (by omega)).1 b hb
  exact (evalF_ok followed Try.func64 (by kernel_rfl) (show evalF Try.prog Try.f64 [.ptr 0 2 0 0, .slc false 1 1 0 11 none] [.rows false 2 [[.ptr 0 2 0 0, .slc false 2 1 0 l.length none]], .rows false 1 flQp, .trows 5 true 1 (rowsL l), .rows true 2 [u0], .rows true 9 [u1]] [Dec.lift 2, Dec.compact (keepM 148 [0, 15, 16, 17]) [0, 1, 2, 3, 4, 5], Dec.loop (.exit 0) (rgpQ 11) (hppQ u0 u1 (l ++ b).length (rowsL (l ++ b)))] = .ok (FRes.mk (.tuple []) (hppQ u0 u1 (l ++ b).length (rowsL (l ++ b))) [(owed Try.prog 5).loop (loopNo Try.f64 0) (rgpQ 0) (hppQ u0 u1 l.length (rowsL l)) (.exit 0) (rgpQ 11) (hppQ u0 u1 (l ++ b).length (rowsL (l ++ b)))]) by kernel_rfl) (allP_of ⟨r.trip, trivial⟩)).move [0, 1, 2, 3, 4, 5] (by kernel_rfl) (by kernel_rfl) (by kernel_rfl)
theorem putsQ_no (u0 u1 : List AVal) (hk : kQ u0 u1) (l : List UInt8) (hl : l.length ≤ 17592186044416) (hb : seqO (fpQ u0 u1) 11 0 = none) :
    FOk Try.prog 64 [.ptr 0 2 0 0, .slc false 1 1 0 11 none] [.rows false 2 [[.ptr 0 2 0 0, .slc false 2 1 0 l.length none]], .rows false 1 flQp, .trows 5 true 1 (rowsL l), .rows true 2 [u0], .rows true 9 [u1]] (.pan 117) [.dead, .dead, .dead, .dead, .dead] := by
  obtain ⟨rg', σ', r⟩ := (puts_run (c := loopNo Try.f64 0) 11 (fun i => rgpQ (i : Nat)) (fun l => hppQ u0 u1 l.length (rowsL l)) (fpQ u0 u1) 17592186044416 40000000 0 (fun i b h => putF_len h) (fun l => TripN.wp (pQX_wp u0 u1 11 l.length (rowsL l) ⟨by kernel_rfl, rfl, rfl, rfl⟩)) (pQ_round u0 u1 hk) 11 0 (by omega) l (by omega)).2 hb
  exact (evalF_ok followed Try.func64 (by kernel_rfl) (show evalF Try.prog Try.f64 [.ptr 0 2 0 0, .slc false 1 1 0 11 none] [.rows false 2 [[.ptr 0 2 0 0, .slc false 2 1 0 l.length none]], .rows false 1 flQp, .trows 5 true 1 (rowsL l), .rows true 2 [u0], .rows true 9 [u1]] [Dec.lift 2, Dec.compact (keepM 148 [0, 15, 16, 17]) [0, 1, 2, 3, 4, 5], Dec.loop (.pan 117) rg' σ'] = .ok (FRes.mk (.pan 117) σ' [(owed Try.prog 5).loop (loopNo Try.f64 0) (rgpQ 0) (hppQ u0 u1 l.length (rowsL l)) (.pan 117) rg' σ']) by kernel_rfl) (allP_of ⟨r.trip, trivial⟩)).pan

theorem tQI0_r (u0 u1 : List AVal) (i j : Nat) (hi : i < 11) (hfl : asType Try.prog 20 [List.getD (List.getD flQt i []) 0 .any] = .iface 100 (.ptr 2 2 0 j)) (hj : j + 1 ≤ 2) (s : ByteArray) :
    (∀ x, takeF 100 s = some x → TripN Try.prog 4 (loopNo Try.f60 0) (rgtQ (i : Nat)) (hptQ u0 u1 s) .normal (rgtQ ((i + 1 : Nat) : Int)) (hptQ (u0.set j x.1) u1 x.2)) ∧ (takeF 100 s = none → ∃ rg' σ', TripN Try.prog 4 (loopNo Try.f60 0) (rgtQ (i : Nat)) (hptQ u0 u1 s) (.pan 117) rg' σ') := by
  have w1 : IntKind.wrap .i64 ((i : Int) + 1) = ((i + 1 : Nat) : Int) := by rw [wrapS (by omega) (by omega)]; omega
  have h0 : 0 ≤ tkV s := Int.natCast_nonneg _
  have e : takeF 100 s = (tI 1099511627776 s).map fun x => (.int .i64 x.1, x.2) := rfl
  rw [e]
  unfold tI
  cases ho : tkOk s 1099511627776 with
  | true =>
    refine ⟨fun x hx => ?_, fun h => by cases h⟩
    cases hx
    refine TripN.wp (tQI0_wp u0 u1 i j s ?_)
    unfold tQI0_T
    rw [Int.toNat_natCast, w1]
    exact ⟨decide_eq_true (by omega), decide_eq_true (by omega), decide_eq_true (by omega), hfl, fun _ => ⟨decide_eq_true (by omega), rfl, rfl, rfl⟩, fun c => absurd c (by rw [ho]; simp), .inl ho⟩
  | false =>
    refine ⟨fun x hx => (by cases hx), fun h => TripN.wpE (tQI0_wp u0 u1 i j s ?_)⟩
    unfold tQI0_T
    rw [Int.toNat_natCast, w1]
    exact ⟨decide_eq_true (by omega), decide_eq_true (by omega), decide_eq_true (by omega), hfl, fun c => absurd c (by rw [ho]; simp), fun _ => rfl, .inr ho⟩

theorem tQI1_r (u0 u1 : List AVal) (i j : Nat) (hi : i < 11) (hfl : asType Try.prog 20 [List.getD (List.getD flQt i []) 0 .any] = .iface 100 (.ptr 3 9 0 j)) (hj : j + 1 ≤ 9) (s : ByteArray) :
    (∀ x, takeF 100 s = some x → TripN Try.prog 4 (loopNo Try.f60 0) (rgtQ (i : Nat)) (hptQ u0 u1 s) .normal (rgtQ ((i + 1 : Nat) : Int)) (hptQ u0 (u1.set j x.1) x.2)) ∧ (takeF 100 s = none → ∃ rg' σ', TripN Try.prog 4 (loopNo Try.f60 0) (rgtQ (i : Nat)) (hptQ u0 u1 s) (.pan 117) rg' σ') := by
  have w1 : IntKind.wrap .i64 ((i : Int) + 1) = ((i + 1 : Nat) : Int) := by rw [wrapS (by omega) (by omega)]; omega
  have h0 : 0 ≤ tkV s := Int.natCast_nonneg _
  have e : takeF 100 s = (tI 1099511627776 s).map fun x => (.int .i64 x.1, x.2) := rfl
  rw [e]
  unfold tI
  cases ho : tkOk s 1099511627776 with
  | true =>
    refine ⟨fun x hx => ?_, fun h => by cases h⟩
    cases hx
    refine TripN.wp (tQI1_wp u0 u1 i j s ?_)
    unfold tQI1_T
    rw [Int.toNat_natCast, w1]
    exact ⟨decide_eq_true (by omega), decide_eq_true (by omega), decide_eq_true (by omega), hfl, fun _ => ⟨decide_eq_true (by omega), rfl, rfl, rfl⟩, fun c => absurd c (by rw [ho]; simp), .inl ho⟩
  | false =>
    refine ⟨fun x hx => (by cases hx), fun h => TripN.wpE (tQI1_wp u0 u1 i j s ?_)⟩
    unfold tQI1_T
    rw [Int.toNat_natCast, w1]
    exact ⟨decide_eq_true (by omega), decide_eq_true (by omega), decide_eq_true (by omega), hfl, fun c => absurd c (by rw [ho]; simp), fun _ => rfl, .inr ho⟩

theorem tQS1_r (u0 u1 : List AVal) (i j : Nat) (hi : i < 11) (hfl : asType Try.prog 20 [List.getD (List.getD flQt i []) 0 .any] = .iface 104 (.ptr 3 9 0 j)) (hj : j + 1 ≤ 9) (s : ByteArray) :
    (∀ x, takeF 104 s = some x → TripN Try.prog 4 (loopNo Try.f60 0) (rgtQ (i : Nat)) (hptQ u0 u1 s) .normal (rgtQ ((i + 1 : Nat) : Int)) (hptQ u0 (u1.set j x.1) x.2)) ∧ (takeF 104 s = none → ∃ rg' σ', TripN Try.prog 4 (loopNo Try.f60 0) (rgtQ (i : Nat)) (hptQ u0 u1 s) (.pan 117) rg' σ') := by
  have w1 : IntKind.wrap .i64 ((i : Int) + 1) = ((i + 1 : Nat) : Int) := by rw [wrapS (by omega) (by omega)]; omega
  have h0 : 0 ≤ tkV s := Int.natCast_nonneg _
  have e : takeF 104 s = (tS s).map fun x => (.str x.1, x.2) := rfl
  rw [e]
  unfold tS
  cases ho : tkOk s 262144 with
  | true =>
    rw [if_pos rfl]
    by_cases hv : tkV s ≤ ((tkR s).size : Int)
    · rw [if_pos hv]
      refine ⟨fun x hx => ?_, fun h => by cases h⟩
      cases hx
      refine TripN.wp (tQS1_wp u0 u1 i j s ?_)
      unfold tQS1_T
      rw [Int.toNat_natCast, Int.toNat_natCast, w1]
      exact ⟨decide_eq_true (by omega), decide_eq_true (by omega), decide_eq_true (by omega), hfl, fun _ => ⟨fun _ => ⟨decide_eq_true (by omega), decide_eq_true (by omega), decide_eq_true (by omega), rfl, rfl, rfl⟩, fun c => absurd (of_decide_eq_false c) (by omega), .inl (decide_eq_true hv)⟩, fun c => absurd c (by rw [ho]; simp), .inl ho⟩
    · rw [if_neg hv]
      refine ⟨fun x hx => (by cases hx), fun h => TripN.wpE (tQS1_wp u0 u1 i j s ?_)⟩
      unfold tQS1_T
      rw [Int.toNat_natCast, Int.toNat_natCast, w1]
      exact ⟨decide_eq_true (by omega), decide_eq_true (by omega), decide_eq_true (by omega), hfl, fun _ => ⟨fun c => absurd (of_decide_eq_true c) (by omega), fun _ => rfl, .inr (decide_eq_false hv)⟩, fun c => absurd c (by rw [ho]; simp), .inl ho⟩
  | false =>
    refine ⟨fun x hx => (by cases hx), fun h => TripN.wpE (tQS1_wp u0 u1 i j s ?_)⟩
    unfold tQS1_T
    rw [Int.toNat_natCast, Int.toNat_natCast, w1]
    exact ⟨decide_eq_true (by omega), decide_eq_true (by omega), decide_eq_true (by omega), hfl, fun c => absurd c (by rw [ho]; simp), fun _ => rfl, .inr ho⟩

def gtQ (i : Nat) (u : List AVal × List AVal) (s : ByteArray) : Option ((List AVal × List AVal) × ByteArray) := (takeF (FQ.getD i (0, 0, 0)).1 s).map fun x => (if (FQ.getD i (0, 0, 0)).2.1 = 0 then (u.1.set (FQ.getD i (0, 0, 0)).2.2 x.1, u.2) else (u.1, u.2.set (FQ.getD i (0, 0, 0)).2.2 x.1), x.2)
theorem tQ_round : ∀ i, i < 11 → ∀ (u : List AVal × List AVal) (s : ByteArray), True → (∀ x, gtQ i u s = some x → True ∧ TripN Try.prog 4 (loopNo Try.f60 0) (rgtQ (i : Nat)) (hptQ u.1 u.2 s) .normal (rgtQ ((i + 1 : Nat) : Int)) (hptQ x.1.1 x.1.2 x.2)) ∧ (gtQ i u s = none → ∃ rg' σ', TripN Try.prog 4 (loopNo Try.f60 0) (rgtQ (i : Nat)) (hptQ u.1 u.2 s) (.pan 117) rg' σ')
  | 0, hi, u, s, _ => by
    obtain ⟨h1, h2⟩ := tQI0_r u.1 u.2 0 0 hi (by kernel_rfl) (by omega) s
    have e : gtQ 0 u s = (takeF 100 s).map fun x => ((u.1.set 0 x.1, u.2), x.2) := rfl
    rw [e]
    cases ht : takeF 100 s with
    | none => exact ⟨fun x hx => (by cases hx), fun _ => h2 ht⟩
    | some x => exact ⟨fun y hy => (by cases hy; exact ⟨trivial, h1 x ht⟩), fun h => by cases h⟩
  | 1, hi, u, s, _ => by
    obtain ⟨h1, h2⟩ := tQI0_r u.1 u.2 1 1 hi (by kernel_rfl) (by omega) s
    have e : gtQ 1 u s = (takeF 100 s).map fun x => ((u.1.set 1 x.1, u.2), x.2) := rfl
    rw [e]
    cases ht : takeF 100 s with
    | none => exact ⟨fun x hx => (by cases hx), fun _ => h2 ht⟩
    | some x => exact ⟨fun y hy => (by cases hy; exact ⟨trivial, h1 x ht⟩), fun h => by cases h⟩
  | 2, hi, u, s, _ => by
    obtain ⟨h1, h2⟩ := tQI1_r u.1 u.2 2 0 hi (by kernel_rfl) (by omega) s
    have e : gtQ 2 u s = (takeF 100 s).map fun x => ((u.1, u.2.set 0 x.1), x.2) := rfl
    rw [e]
    cases ht : takeF 100 s with
    | none => exact ⟨fun x hx => (by cases hx), fun _ => h2 ht⟩
    | some x => exact ⟨fun y hy => (by cases hy; exact ⟨trivial, h1 x ht⟩), fun h => by cases h⟩
  | 3, hi, u, s, _ => by
    obtain ⟨h1, h2⟩ := tQS1_r u.1 u.2 3 1 hi (by kernel_rfl) (by omega) s
    have e : gtQ 3 u s = (takeF 104 s).map fun x => ((u.1, u.2.set 1 x.1), x.2) := rfl
    rw [e]
    cases ht : takeF 104 s with
    | none => exact ⟨fun x hx => (by cases hx), fun _ => h2 ht⟩
    | some x => exact ⟨fun y hy => (by cases hy; exact ⟨trivial, h1 x ht⟩), fun h => by cases h⟩
  | 4, hi, u, s, _ => by
    obtain ⟨h1, h2⟩ := tQS1_r u.1 u.2 4 2 hi (by kernel_rfl) (by omega) s
    have e : gtQ 4 u s = (takeF 104 s).map fun x => ((u.1, u.2.set 2 x.1), x.2) := rfl
    rw [e]
    cases ht : takeF 104 s with
    | none => exact ⟨fun x hx => (by cases hx), fun _ => h2 ht⟩
    | some x => exact ⟨fun y hy => (by cases hy; exact ⟨trivial, h1 x ht⟩), fun h => by cases h⟩
  | 5, hi, u, s, _ => by
    obtain ⟨h1, h2⟩ := tQS1_r u.1 u.2 5 3 hi (by kernel_rfl) (by omega) s
    have e : gtQ 5 u s = (takeF 104 s).map fun x => ((u.1, u.2.set 3 x.1), x.2) := rfl
    rw [e]
    cases ht : takeF 104 s with
    | none => exact ⟨fun x hx => (by cases hx), fun _ => h2 ht⟩
    | some x => exact ⟨fun y hy => (by cases hy; exact ⟨trivial, h1 x ht⟩), fun h => by cases h⟩
  | 6, hi, u, s, _ => by
    obtain ⟨h1, h2⟩ := tQS1_r u.1 u.2 6 4 hi (by kernel_rfl) (by omega) s
    have e : gtQ 6 u s = (takeF 104 s).map fun x => ((u.1, u.2.set 4 x.1), x.2) := rfl
    rw [e]
    cases ht : takeF 104 s with
    | none => exact ⟨fun x hx => (by cases hx), fun _ => h2 ht⟩
    | some x => exact ⟨fun y hy => (by cases hy; exact ⟨trivial, h1 x ht⟩), fun h => by cases h⟩
  | 7, hi, u, s, _ => by
    obtain ⟨h1, h2⟩ := tQS1_r u.1 u.2 7 5 hi (by kernel_rfl) (by omega) s
    have e : gtQ 7 u s = (takeF 104 s).map fun x => ((u.1, u.2.set 5 x.1), x.2) := rfl
    rw [e]
    cases ht : takeF 104 s with
    | none => exact ⟨fun x hx => (by cases hx), fun _ => h2 ht⟩
    | some x => exact ⟨fun y hy => (by cases hy; exact ⟨trivial, h1 x ht⟩), fun h => by cases h⟩
  | 8, hi, u, s, _ => by
    obtain ⟨h1, h2⟩ := tQS1_r u.1 u.2 8 6 hi (by kernel_rfl) (by omega) s
    have e : gtQ 8 u s = (takeF 104 s).map fun x => ((u.1, u.2.set 6 x.1), x.2) := rfl
    rw [e]
    cases ht : takeF 104 s with
    | none => exact ⟨fun x hx => (by cases hx), fun _ => h2 ht⟩
    | some x => exact ⟨fun y hy => (by cases hy; exact ⟨trivial, h1 x ht⟩), fun h => by cases h⟩
  | 9, hi, u, s, _ => by
    obtain ⟨h1, h2⟩ := tQI1_r u.1 u.2 9 7 hi (by kernel_rfl) (by omega) s
    have e : gtQ 9 u s = (takeF 100 s).map fun x => ((u.1, u.2.set 7 x.1), x.2) := rfl
    rw [e]
    cases ht : takeF 100 s with
    | none => exact ⟨fun x hx => (by cases hx), fun _ => h2 ht⟩
    | some x => exact ⟨fun y hy => (by cases hy; exact ⟨trivial, h1 x ht⟩), fun h => by cases h⟩
  | 10, hi, u, s, _ => by
    obtain ⟨h1, h2⟩ := tQI1_r u.1 u.2 10 8 hi (by kernel_rfl) (by omega) s
    have e : gtQ 10 u s = (takeF 100 s).map fun x => ((u.1, u.2.set 8 x.1), x.2) := rfl
    rw [e]
    cases ht : takeF 100 s with
    | none => exact ⟨fun x hx => (by cases hx), fun _ => h2 ht⟩
    | some x => exact ⟨fun y hy => (by cases hy; exact ⟨trivial, h1 x ht⟩), fun h => by cases h⟩
  | n + 11, hi, u, s, _ => absurd hi (by omega)
theorem takesQ_ok (u : List AVal × List AVal) (s : ByteArray) (x : (List AVal × List AVal) × ByteArray) (hb : seqG gtQ 11 0 u s = some x) :
    FOk Try.prog 60 [.ptr 0 1 0 0, .slc false 1 1 0 11 none] [.rows true 1 [[.str s]], .rows false 1 flQt, .rows true 2 [u.1], .rows true 9 [u.2]] (.tuple []) [.rows true 1 [[.str x.2]], .rows false 1 flQt, .rows true 2 [x.1.1], .rows true 9 [x.1.2]] := by
  have r := (takes_run (c := loopNo Try.f60 0) 11 (fun i => rgtQ (i : Nat)) (fun (u : List AVal × List AVal) s => hptQ u.1 u.2 s) gtQ (fun _ _ => True) 0 (fun u s _ => TripN.wp (tQX_wp u.1 u.2 11 s ⟨by kernel_rfl, rfl, rfl, rfl⟩)) tQ_round 11 0 (by omega) u s trivial).1 x hb
  exact (evalF_ok followed Try.func60 (by kernel_rfl) (show evalF Try.prog Try.f60 [.ptr 0 1 0 0, .slc false 1 1 0 11 none] [.rows true 1 [[.str s]], .rows false 1 flQt, .rows true 2 [u.1], .rows true 9 [u.2]] [Dec.compact (keepM 117 [0, 15, 16, 17]) [0, 1, 2, 3], Dec.loop (.exit 0) (rgtQ 11) (hptQ x.1.1 x.1.2 x.2)] = .ok (FRes.mk (.tuple []) (hptQ x.1.1 x.1.2 x.2) [(owed Try.prog 4).loop (loopNo Try.f60 0) (rgtQ 0) (hptQ u.1 u.2 s) (.exit 0) (rgtQ 11) (hptQ x.1.1 x.1.2 x.2)]) by kernel_rfl) (allP_of ⟨r.trip, trivial⟩)).move [0, 1, 2, 3] (by kernel_rfl) (by kernel_rfl) (by kernel_rfl)
end Go.L12
end

section
set_option linter.unusedVariables false
set_option maxRecDepth 100000
namespace Go.L12
open Go Go.Abs Go.Abs.AVal Go.Abs.AObj Go.Proofs

theorem rTQ_1 (u0 u1 : List AVal) (k k2 : Nat) (bs bs2 : List (List AVal))
    (h1 : FOk Try.prog 64 [ptr 0 2 0 0, slc false 1 1 0 11 none] [rows false 2 [[ptr 0 2 0 0, slc false 2 1 0 k none]], rows false 1 (flQ 3 4), trows 5 true 1 bs, rows true 2 [u0], rows true 9 [u1]] (tuple []) [rows false 2 [[ptr 0 2 0 0, slc false 5 1 0 k2 none]], rows false 1 (flQ 3 4), dead, rows true 2 [u0], rows true 9 [u1], trows 5 true 1 bs2]) :
    TripN Try.prog 6 (codeTail (codeTail (bodyOf Try.f53))) (mkR 8 [(0, ptr 0 2 0 0), (1, slc false 1 1 0 11 none), (4, ptr 5 1 0 0)]) ([rows false 2 [[ptr 0 2 0 0, slc false 2 1 0 k none]], rows false 1 (flQ 3 4), trows 5 true 1 bs, rows true 2 [u0], rows true 9 [u1], rows true 1 [[iI 0]]]) (AExit.ret) (mkR 8 [(4, ptr 5 1 0 0)]) ([rows false 2 [[ptr 0 2 0 0, slc false 6 1 0 k2 none]], rows false 1 (flQ 3 4), dead, rows true 2 [u0], rows true 9 [u1], rows true 1 [[iI 0]], trows 5 true 1 bs2]) :=
  evalT (st := St.mk (mkR 8 [(0, ptr 0 2 0 0), (1, slc false 1 1 0 11 none), (4, ptr 5 1 0 0)]) ([rows false 2 [[ptr 0 2 0 0, slc false 2 1 0 k none]], rows false 1 (flQ 3 4), trows 5 true 1 bs, rows true 2 [u0], rows true 9 [u1], rows true 1 [[iI 0]]]) ([Dec.use [0, 1, 2, 3, 4] [ptr 0 2 0 0, slc false 1 1 0 11 none] [rows false 2 [[ptr 0 2 0 0, slc false 2 1 0 k none]], rows false 1 (flQ 3 4), trows 5 true 1 bs, rows true 2 [u0], rows true 9 [u1]] (tuple []) [rows false 2 [[ptr 0 2 0 0, slc false 5 1 0 k2 none]], rows false 1 (flQ 3 4), dead, rows true 2 [u0], rows true 9 [u1], trows 5 true 1 bs2]]) []) (st' := St.mk (mkR 8 [(0, ptr 0 2 0 0), (1, slc false 1 1 0 11 none), (4, ptr 5 1 0 0), (5, ptr 0 2 0 0), (6, slc false 1 1 0 11 none), (7, tuple [])]) ([rows false 2 [[ptr 0 2 0 0, slc false 6 1 0 k2 none]], rows false 1 (flQ 3 4), dead, rows true 2 [u0], rows true 9 [u1], rows true 1 [[iI 0]], trows 5 true 1 bs2]) ([]) (tr 2 ++ ((oU 6 64 [0, 1, 2, 3, 4] [ptr 0 2 0 0, slc false 1 1 0 11 none] [rows false 2 [[ptr 0 2 0 0, slc false 2 1 0 k none]], rows false 1 (flQ 3 4), trows 5 true 1 bs, rows true 2 [u0], rows true 9 [u1], rows true 1 [[iI 0]]] [ptr 0 2 0 0, slc false 1 1 0 11 none] [rows false 2 [[ptr 0 2 0 0, slc false 2 1 0 k none]], rows false 1 (flQ 3 4), trows 5 true 1 bs, rows true 2 [u0], rows true 9 [u1]] (tuple []) [rows false 2 [[ptr 0 2 0 0, slc false 5 1 0 k2 none]], rows false 1 (flQ 3 4), dead, rows true 2 [u0], rows true 9 [u1], trows 5 true 1 bs2]) :: []))) followed (by kernel_rfl) (allP_of (trC 2 ⟨⟨h1, rfl, rfl, rfl⟩, trivial⟩)) (keepM 8 [4]) ([0, 1, 2, 3, 4, 5, 6]) (by kernel_rfl) (by kernel_rfl) (by kernel_rfl)

theorem rTnQ_1 (u0 u1 : List AVal) (k : Nat) (bs : List (List AVal))
    (h1 : FOk Try.prog 64 [ptr 0 2 0 0, slc false 1 1 0 11 none] [rows false 2 [[ptr 0 2 0 0, slc false 2 1 0 k none]], rows false 1 (flQ 3 4), trows 5 true 1 bs, rows true 2 [u0], rows true 9 [u1]] (pan 117) [dead, dead, dead, dead, dead]) :
    TripN Try.prog 6 (codeTail (codeTail (bodyOf Try.f53))) (mkR 8 [(0, ptr 0 2 0 0), (1, slc false 1 1 0 11 none), (4, ptr 5 1 0 0)]) ([rows false 2 [[ptr 0 2 0 0, slc false 2 1 0 k none]], rows false 1 (flQ 3 4), trows 5 true 1 bs, rows true 2 [u0], rows true 9 [u1], rows true 1 [[iI 0]]]) (AExit.pan 117) (mkR 8 [(4, ptr 5 1 0 0)]) ([dead, dead, dead, dead, dead, rows true 1 [[iI 0]]]) :=
  evalT (st := St.mk (mkR 8 [(0, ptr 0 2 0 0), (1, slc false 1 1 0 11 none), (4, ptr 5 1 0 0)]) ([rows false 2 [[ptr 0 2 0 0, slc false 2 1 0 k none]], rows false 1 (flQ 3 4), trows 5 true 1 bs, rows true 2 [u0], rows true 9 [u1], rows true 1 [[iI 0]]]) ([Dec.use [0, 1, 2, 3, 4] [ptr 0 2 0 0, slc false 1 1 0 11 none] [rows false 2 [[ptr 0 2 0 0, slc false 2 1 0 k none]], rows false 1 (flQ 3 4), trows 5 true 1 bs, rows true 2 [u0], rows true 9 [u1]] (pan 117) [dead, dead, dead, dead, dead]]) []) (st' := St.mk (mkR 8 [(0, ptr 0 2 0 0), (1, slc false 1 1 0 11 none), (4, ptr 5 1 0 0), (5, ptr 0 2 0 0), (6, slc false 1 1 0 11 none)]) ([dead, dead, dead, dead, dead, rows true 1 [[iI 0]]]) ([]) ((oU 6 64 [0, 1, 2, 3, 4] [ptr 0 2 0 0, slc false 1 1 0 11 none] [rows false 2 [[ptr 0 2 0 0, slc false 2 1 0 k none]], rows false 1 (flQ 3 4), trows 5 true 1 bs, rows true 2 [u0], rows true 9 [u1], rows true 1 [[iI 0]]] [ptr 0 2 0 0, slc false 1 1 0 11 none] [rows false 2 [[ptr 0 2 0 0, slc false 2 1 0 k none]], rows false 1 (flQ 3 4), trows 5 true 1 bs, rows true 2 [u0], rows true 9 [u1]] (pan 117) [dead, dead, dead, dead, dead]) :: [])) followed (by kernel_rfl) (allP_of ⟨⟨h1, rfl, rfl, rfl⟩, trivial⟩) (keepM 8 [4]) ([0, 1, 2, 3, 4, 5]) (by kernel_rfl) (by kernel_rfl) (by kernel_rfl)

theorem rFQ_1 (u0 u1 v0 v1 : List AVal) (m s s2 : ByteArray) (b : Bool)
    (h1 : FOk Try.prog 58 [bool (ByteArray.toList s2 == ByteArray.toList (ByteArray.mk #[]))] [] (tuple []) [])
    (h2 : FOk Try.prog 60 [ptr 0 1 0 0, slc false 1 1 0 11 none] [rows true 1 [[str (ByteArray.extract s (Int.toNat (↑(ByteArray.size m) : Int)) (Int.toNat (↑(ByteArray.size s) : Int)))]], rows false 1 (flQ 2 3), rows true 2 [u0], rows true 9 [u1]] (tuple []) [rows true 1 [[str s2]], rows false 1 (flQ 2 3), rows true 2 [v0], rows true 9 [v1]])
    (h3 : decide (0 ≤ (↑(ByteArray.size m) : Int) ∧ (↑(ByteArray.size m) : Int) ≤ (↑(ByteArray.size s) : Int) ∧ (↑(ByteArray.size s) : Int) ≤ (↑(ByteArray.size s) : Int)) = true)
    (h4 : FOk Try.prog 58 [bool true] [] (tuple []) [])
    (h5 : FOk Try.prog 59 [str s, str m] [] (bool true) []) :
    TripN Try.prog 5 (codeTail (codeTail (bodyOf Try.f40))) (mkR 20 [(1, str m), (2, slc false 0 1 0 11 none), (3, ptr 3 1 0 0), (6, ptr 4 1 0 0)]) ([rows false 1 (flQ 1 2), rows true 2 [u0], rows true 9 [u1], rows true 1 [[str s]], rows true 1 [[iI 0]]]) (AExit.ret) (mkR 20 [(6, ptr 4 1 0 0)]) ([rows false 1 (flQ 1 2), rows true 2 [v0], rows true 9 [v1], rows true 1 [[str s2]], rows true 1 [[iI 0]]]) :=
  evalT (st := St.mk (mkR 20 [(1, str m), (2, slc false 0 1 0 11 none), (3, ptr 3 1 0 0), (6, ptr 4 1 0 0)]) ([rows false 1 (flQ 1 2), rows true 2 [u0], rows true 9 [u1], rows true 1 [[str s]], rows true 1 [[iI 0]]]) ([Dec.use [] [str s, str m] [] (bool true) [], Dec.use [] [bool true] [] (tuple []) [], Dec.use [3, 0, 1, 2] [ptr 0 1 0 0, slc false 1 1 0 11 none] [rows true 1 [[str (ByteArray.extract s (Int.toNat (↑(ByteArray.size m) : Int)) (Int.toNat (↑(ByteArray.size s) : Int)))]], rows false 1 (flQ 2 3), rows true 2 [u0], rows true 9 [u1]] (tuple []) [rows true 1 [[str s2]], rows false 1 (flQ 2 3), rows true 2 [v0], rows true 9 [v1]], Dec.use [] [bool (ByteArray.toList s2 == ByteArray.toList (ByteArray.mk #[]))] [] (tuple []) []]) []) (st' := St.mk (mkR 20 [(1, str m), (2, slc false 0 1 0 11 none), (3, ptr 3 1 0 0), (6, ptr 4 1 0 0), (7, str s), (8, str m), (9, bool true), (10, tuple []), (11, str s), (12, str m), (13, iI (↑(ByteArray.size m) : Int)), (14, str (ByteArray.extract s (Int.toNat (↑(ByteArray.size m) : Int)) (Int.toNat (↑(ByteArray.size s) : Int)))), (15, slc false 0 1 0 11 none), (16, tuple []), (17, str s2), (18, bool (ByteArray.toList s2 == ByteArray.toList (ByteArray.mk #[]))), (19, tuple [])]) ([rows false 1 (flQ 1 2), rows true 2 [v0], rows true 9 [v1], rows true 1 [[str s2]], rows true 1 [[iI 0]]]) ([]) (tr 2 ++ ((oU 5 58 [] [bool (ByteArray.toList s2 == ByteArray.toList (ByteArray.mk #[]))] [rows false 1 (flQ 1 2), rows true 2 [v0], rows true 9 [v1], rows true 1 [[str s2]], rows true 1 [[iI 0]]] [bool (ByteArray.toList s2 == ByteArray.toList (ByteArray.mk #[]))] [] (tuple []) []) :: (tr 3 ++ ((oU 5 60 [3, 0, 1, 2] [ptr 3 1 0 0, slc false 0 1 0 11 none] [rows false 1 (flQ 1 2), rows true 2 [u0], rows true 9 [u1], rows true 1 [[str (ByteArray.extract s (Int.toNat (↑(ByteArray.size m) : Int)) (Int.toNat (↑(ByteArray.size s) : Int)))]], rows true 1 [[iI 0]]] [ptr 0 1 0 0, slc false 1 1 0 11 none] [rows true 1 [[str (ByteArray.extract s (Int.toNat (↑(ByteArray.size m) : Int)) (Int.toNat (↑(ByteArray.size s) : Int)))]], rows false 1 (flQ 2 3), rows true 2 [u0], rows true 9 [u1]] (tuple []) [rows true 1 [[str s2]], rows false 1 (flQ 2 3), rows true 2 [v0], rows true 9 [v1]]) :: (tr 2 ++ ((decide (0 ≤ (↑(ByteArray.size m) : Int) ∧ (↑(ByteArray.size m) : Int) ≤ (↑(ByteArray.size s) : Int) ∧ (↑(ByteArray.size s) : Int) ≤ (↑(ByteArray.size s) : Int)) = true) :: (tr 3 ++ ((oU 5 58 [] [bool true] [rows false 1 (flQ 1 2), rows true 2 [u0], rows true 9 [u1], rows true 1 [[str s]], rows true 1 [[iI 0]]] [bool true] [] (tuple []) []) :: ((oU 5 59 [] [str s, str m] [rows false 1 (flQ 1 2), rows true 2 [u0], rows true 9 [u1], rows true 1 [[str s]], rows true 1 [[iI 0]]] [str s, str m] [] (bool true) []) :: (tr 3 ++ []))))))))))) followed (by kernel_rfl) (allP_of (trC 2 ⟨⟨h1, rfl, rfl, rfl⟩, (trC 3 ⟨⟨h2, rfl, rfl, rfl⟩, (trC 2 ⟨h3, (trC 3 ⟨⟨h4, rfl, rfl, rfl⟩, ⟨⟨h5, rfl, rfl, rfl⟩, (trC 3 trivial)⟩⟩)⟩)⟩)⟩)) (keepM 20 [6]) ([0, 1, 2, 3, 4]) (by kernel_rfl) (by kernel_rfl) (by kernel_rfl)

theorem bTQ_1 (u0 u1 : List AVal) (k2 : Nat) (bs2 : List (List AVal)) :
    TripN Try.prog 7 (codeTail (bodyOf Try.f57)) (catchRegs 16 5 1 7 nili) ([rows false 2 [[ptr 0 2 0 0, slc false 6 1 0 k2 none]], rows false 1 (flQ 3 4), dead, rows true 2 [u0], rows true 9 [u1], rows true 1 [[iI 0]], trows 5 true 1 bs2]) (AExit.normal) (mkR 16 []) ([rows false 2 [[ptr 0 2 0 0, slc false 6 1 0 k2 none]], rows false 1 (flQ 3 4), dead, rows true 2 [u0], rows true 9 [u1], rows true 1 [[iI 0]], trows 5 true 1 bs2]) :=
  evalT (st := St.mk (catchRegs 16 5 1 7 nili) ([rows false 2 [[ptr 0 2 0 0, slc false 6 1 0 k2 none]], rows false 1 (flQ 3 4), dead, rows true 2 [u0], rows true 9 [u1], rows true 1 [[iI 0]], trows 5 true 1 bs2]) ([Dec.br true]) []) (st' := St.mk (mkR 16 [(0, ptr 5 1 0 0), (1, iI 1), (2, tuple []), (3, tuple []), (4, nili), (5, tuple []), (6, tuple []), (7, nili), (8, tuple []), (9, tt true), (10, tuple []), (11, tuple []), (12, tuple []), (13, tuple []), (14, tuple []), (15, tuple [])]) ([rows false 2 [[ptr 0 2 0 0, slc false 6 1 0 k2 none]], rows false 1 (flQ 3 4), dead, rows true 2 [u0], rows true 9 [u1], rows true 1 [[iI 0]], trows 5 true 1 bs2]) ([]) (tr 1 ++ [])) followed (by kernel_rfl) (allP_of (trC 1 trivial)) (keepM 16 []) ([0, 1, 2, 3, 4, 5, 6]) (by kernel_rfl) (by kernel_rfl) (by kernel_rfl)

theorem bTnQ_1 (x : Nat) :
    TripN Try.prog 6 (codeTail (bodyOf Try.f57)) (catchRegs 16 5 1 7 (iface 117 (agg []))) ([dead, dead, dead, dead, dead, rows true 1 [[iI 0]]]) (AExit.normal) (mkR 16 []) ([dead, dead, dead, dead, dead, rows true 1 [[iI 1]]]) :=
  evalT (st := St.mk (catchRegs 16 5 1 7 (iface 117 (agg []))) ([dead, dead, dead, dead, dead, rows true 1 [[iI 0]]]) ([Dec.br false]) []) (st' := St.mk (mkR 16 [(0, ptr 5 1 0 0), (1, iI 1), (2, tuple []), (3, tuple []), (4, tuple []), (5, ptr 6 0 0 0), (6, tuple []), (7, iface 117 (agg [])), (8, tuple []), (9, tt false), (10, tuple [agg [], tt true]), (11, tt true), (12, agg []), (13, ptr 5 1 0 0), (14, iI 1), (15, ptr 5 1 0 0)]) ([dead, dead, dead, dead, dead, rows true 1 [[iI 1]], rows true 0 [[]]]) ([]) (tr 4 ++ ((false = false) :: []))) followed (by kernel_rfl) (allP_of (trC 4 ⟨rfl, trivial⟩)) (keepM 16 []) ([0, 1, 2, 3, 4, 5]) (by kernel_rfl) (by kernel_rfl) (by kernel_rfl)

theorem bFQ_1 (v0 v1 : List AVal) (s2 : ByteArray) :
    TripN Try.prog 5 (codeTail (bodyOf Try.f57)) (catchRegs 16 4 140 7 nili) ([rows false 1 (flQ 1 2), rows true 2 [v0], rows true 9 [v1], rows true 1 [[str s2]], rows true 1 [[iI 0]]]) (AExit.normal) (mkR 16 []) ([rows false 1 (flQ 1 2), rows true 2 [v0], rows true 9 [v1], rows true 1 [[str s2]], rows true 1 [[iI 0]]]) :=
  evalT (st := St.mk (catchRegs 16 4 140 7 nili) ([rows false 1 (flQ 1 2), rows true 2 [v0], rows true 9 [v1], rows true 1 [[str s2]], rows true 1 [[iI 0]]]) ([Dec.br true]) []) (st' := St.mk (mkR 16 [(0, ptr 4 1 0 0), (1, iI 140), (2, tuple []), (3, tuple []), (4, nili), (5, tuple []), (6, tuple []), (7, nili), (8, tuple []), (9, tt true), (10, tuple []), (11, tuple []), (12, tuple []), (13, tuple []), (14, tuple []), (15, tuple [])]) ([rows false 1 (flQ 1 2), rows true 2 [v0], rows true 9 [v1], rows true 1 [[str s2]], rows true 1 [[iI 0]]]) ([]) (tr 1 ++ [])) followed (by kernel_rfl) (allP_of (trC 1 trivial)) (keepM 16 []) ([0, 1, 2, 3, 4]) (by kernel_rfl) (by kernel_rfl) (by kernel_rfl)

theorem hTQ_1 (u0 u1 : List AVal) (k : Nat) (bs : List (List AVal)) :
    TripN Try.prog 5 (codeHd (bodyOf Try.f53)) ([ptr 0 2 0 0, slc false 1 1 0 11 none] ++ List.replicate (8 - 2) aundef) ([rows false 2 [[ptr 0 2 0 0, slc false 2 1 0 k none]], rows false 1 (flQ 3 4), trows 5 true 1 bs, rows true 2 [u0], rows true 9 [u1]]) (AExit.normal) (mkR 8 [(0, ptr 0 2 0 0), (1, slc false 1 1 0 11 none), (4, ptr 5 1 0 0)]) ([rows false 2 [[ptr 0 2 0 0, slc false 2 1 0 k none]], rows false 1 (flQ 3 4), trows 5 true 1 bs, rows true 2 [u0], rows true 9 [u1], rows true 1 [[iI 0]]]) :=
  evalT (st := St.mk ([ptr 0 2 0 0, slc false 1 1 0 11 none] ++ List.replicate (8 - 2) aundef) ([rows false 2 [[ptr 0 2 0 0, slc false 2 1 0 k none]], rows false 1 (flQ 3 4), trows 5 true 1 bs, rows true 2 [u0], rows true 9 [u1]]) ([]) []) (st' := St.mk (mkR 8 [(0, ptr 0 2 0 0), (1, slc false 1 1 0 11 none), (2, tuple []), (3, tuple []), (4, ptr 5 1 0 0), (5, tuple []), (6, tuple []), (7, tuple [])]) ([rows false 2 [[ptr 0 2 0 0, slc false 2 1 0 k none]], rows false 1 (flQ 3 4), trows 5 true 1 bs, rows true 2 [u0], rows true 9 [u1], rows true 1 [[iI 0]]]) ([]) []) followed (by kernel_rfl) (allP_of trivial) (keepM 8 [0, 1, 4]) ([0, 1, 2, 3, 4, 5]) (by kernel_rfl) (by kernel_rfl) (by kernel_rfl)

theorem hFQ_1 (u0 u1 : List AVal) (s m : ByteArray) :
    TripN Try.prog 3 (codeHd (bodyOf Try.f40)) ([str s, str m, slc false 0 1 0 11 none] ++ List.replicate (20 - 3) aundef) ([rows false 1 (flQ 1 2), rows true 2 [u0], rows true 9 [u1]]) (AExit.normal) (mkR 20 [(1, str m), (2, slc false 0 1 0 11 none), (3, ptr 3 1 0 0), (6, ptr 4 1 0 0)]) ([rows false 1 (flQ 1 2), rows true 2 [u0], rows true 9 [u1], rows true 1 [[str s]], rows true 1 [[iI 0]]]) :=
  evalT (st := St.mk ([str s, str m, slc false 0 1 0 11 none] ++ List.replicate (20 - 3) aundef) ([rows false 1 (flQ 1 2), rows true 2 [u0], rows true 9 [u1]]) ([]) []) (st' := St.mk (mkR 20 [(0, str s), (1, str m), (2, slc false 0 1 0 11 none), (3, ptr 3 1 0 0), (4, tuple []), (5, tuple []), (6, ptr 4 1 0 0), (7, tuple []), (8, tuple []), (9, tuple []), (10, tuple []), (11, tuple []), (12, tuple []), (13, tuple []), (14, tuple []), (15, tuple []), (16, tuple []), (17, tuple []), (18, tuple []), (19, tuple [])]) ([rows false 1 (flQ 1 2), rows true 2 [u0], rows true 9 [u1], rows true 1 [[str s]], rows true 1 [[iI 0]]]) ([]) []) followed (by kernel_rfl) (allP_of trivial) (keepM 20 [1, 2, 3, 6]) ([0, 1, 2, 3, 4]) (by kernel_rfl) (by kernel_rfl) (by kernel_rfl)

end Go.L12
end

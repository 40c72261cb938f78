import Derived.Test.YtpncnfhfjegibaaDoorL09s0
section
set_option linter.unusedVariables false
set_option maxRecDepth 100000
namespace Go.MN
open Go Go.Abs Go.Proofs
abbrev iqNL : Int → AVal := AVal.int IntKind.i64
abbrev bqNL : ByteArray := ByteArray.mk #[]
theorem odd_1 (c : Int)
    (h1 : decide (c < 48) = true)
    (h2 : decide (c < 97) = true) :
    FOk Tryd.prog 48 ([AVal.int IntKind.i32 c]) ([]) (AVal.bool (c != 45)) ([]) :=
  (evalF_ok followed Tryd.func48 (by kernel_rfl) (show evalF Tryd.prog Tryd.f48 ([AVal.int IntKind.i32 c]) ([]) ([Dec.br true, Dec.br true]) = .ok (FRes.mk (AVal.bool (c != 45)) ([]) ((decide (c < 48) = true) :: ((decide (c < 97) = true) :: []))) by kernel_rfl) (allP_of ⟨h1, ⟨h2, trivial⟩⟩)).move ([]) (by kernel_rfl) (by kernel_rfl) (by kernel_rfl)

theorem odd_2 (c : Int)
    (h1 : decide (c > 57) = true)
    (h2 : decide (c < 48) = false)
    (h3 : decide (c < 97) = true) :
    FOk Tryd.prog 48 ([AVal.int IntKind.i32 c]) ([]) (AVal.bool (c != 45)) ([]) :=
  (evalF_ok followed Tryd.func48 (by kernel_rfl) (show evalF Tryd.prog Tryd.f48 ([AVal.int IntKind.i32 c]) ([]) ([Dec.br true, Dec.br false, Dec.br true]) = .ok (FRes.mk (AVal.bool (c != 45)) ([]) ((decide (c > 57) = true) :: ((decide (c < 48) = false) :: ((decide (c < 97) = true) :: [])))) by kernel_rfl) (allP_of ⟨h1, ⟨h2, ⟨h3, trivial⟩⟩⟩)).move ([]) (by kernel_rfl) (by kernel_rfl) (by kernel_rfl)

theorem odd_3 (c : Int)
    (h1 : decide (c > 57) = false)
    (h2 : decide (c < 48) = false)
    (h3 : decide (c < 97) = true) :
    FOk Tryd.prog 48 ([AVal.int IntKind.i32 c]) ([]) (AVal.bool false) ([]) :=
  (evalF_ok followed Tryd.func48 (by kernel_rfl) (show evalF Tryd.prog Tryd.f48 ([AVal.int IntKind.i32 c]) ([]) ([Dec.br true, Dec.br false, Dec.br false]) = .ok (FRes.mk (AVal.bool false) ([]) ((decide (c > 57) = false) :: ((decide (c < 48) = false) :: ((decide (c < 97) = true) :: [])))) by kernel_rfl) (allP_of ⟨h1, ⟨h2, ⟨h3, trivial⟩⟩⟩)).move ([]) (by kernel_rfl) (by kernel_rfl) (by kernel_rfl)

theorem odd_4 (c : Int)
    (h1 : decide (c < 48) = true)
    (h2 : decide (c > 122) = true)
    (h3 : decide (c < 97) = false) :
    FOk Tryd.prog 48 ([AVal.int IntKind.i32 c]) ([]) (AVal.bool (c != 45)) ([]) :=
  (evalF_ok followed Tryd.func48 (by kernel_rfl) (show evalF Tryd.prog Tryd.f48 ([AVal.int IntKind.i32 c]) ([]) ([Dec.br false, Dec.br true, Dec.br true]) = .ok (FRes.mk (AVal.bool (c != 45)) ([]) ((decide (c < 48) = true) :: ((decide (c > 122) = true) :: ((decide (c < 97) = false) :: [])))) by kernel_rfl) (allP_of ⟨h1, ⟨h2, ⟨h3, trivial⟩⟩⟩)).move ([]) (by kernel_rfl) (by kernel_rfl) (by kernel_rfl)

theorem odd_5 (c : Int)
    (h1 : decide (c > 57) = true)
    (h2 : decide (c < 48) = false)
    (h3 : decide (c > 122) = true)
    (h4 : decide (c < 97) = false) :
    FOk Tryd.prog 48 ([AVal.int IntKind.i32 c]) ([]) (AVal.bool (c != 45)) ([]) :=
  (evalF_ok followed Tryd.func48 (by kernel_rfl) (show evalF Tryd.prog Tryd.f48 ([AVal.int IntKind.i32 c]) ([]) ([Dec.br false, Dec.br true, Dec.br false, Dec.br true]) = .ok (FRes.mk (AVal.bool (c != 45)) ([]) ((decide (c > 57) = true) :: ((decide (c < 48) = false) :: ((decide (c > 122) = true) :: ((decide (c < 97) = false) :: []))))) by kernel_rfl) (allP_of ⟨h1, ⟨h2, ⟨h3, ⟨h4, trivial⟩⟩⟩⟩)).move ([]) (by kernel_rfl) (by kernel_rfl) (by kernel_rfl)

theorem odd_6 (c : Int)
    (h1 : decide (c > 57) = false)
    (h2 : decide (c < 48) = false)
    (h3 : decide (c > 122) = true)
    (h4 : decide (c < 97) = false) :
    FOk Tryd.prog 48 ([AVal.int IntKind.i32 c]) ([]) (AVal.bool false) ([]) :=
  (evalF_ok followed Tryd.func48 (by kernel_rfl) (show evalF Tryd.prog Tryd.f48 ([AVal.int IntKind.i32 c]) ([]) ([Dec.br false, Dec.br true, Dec.br false, Dec.br false]) = .ok (FRes.mk (AVal.bool false) ([]) ((decide (c > 57) = false) :: ((decide (c < 48) = false) :: ((decide (c > 122) = true) :: ((decide (c < 97) = false) :: []))))) by kernel_rfl) (allP_of ⟨h1, ⟨h2, ⟨h3, ⟨h4, trivial⟩⟩⟩⟩)).move ([]) (by kernel_rfl) (by kernel_rfl) (by kernel_rfl)

theorem odd_7 (c : Int)
    (h1 : decide (c > 122) = false)
    (h2 : decide (c < 97) = false) :
    FOk Tryd.prog 48 ([AVal.int IntKind.i32 c]) ([]) (AVal.bool false) ([]) :=
  (evalF_ok followed Tryd.func48 (by kernel_rfl) (show evalF Tryd.prog Tryd.f48 ([AVal.int IntKind.i32 c]) ([]) ([Dec.br false, Dec.br false]) = .ok (FRes.mk (AVal.bool false) ([]) ((decide (c > 122) = false) :: ((decide (c < 97) = false) :: []))) by kernel_rfl) (allP_of ⟨h1, ⟨h2, trivial⟩⟩)).move ([]) (by kernel_rfl) (by kernel_rfl) (by kernel_rfl)

def odd_T (c : Int) (Q : AVal → AState → Prop) : Prop := ((decide (c < 97) = true) → ((decide (c < 48) = true) → Q (AVal.bool (c != 45)) ([])) ∧ ((decide (c < 48) = false) → ((decide (c > 57) = true) → Q (AVal.bool (c != 45)) ([])) ∧ ((decide (c > 57) = false) → Q (AVal.bool false) ([])))) ∧ ((decide (c < 97) = false) → ((decide (c > 122) = true) → ((decide (c < 48) = true) → Q (AVal.bool (c != 45)) ([])) ∧ ((decide (c < 48) = false) → ((decide (c > 57) = true) → Q (AVal.bool (c != 45)) ([])) ∧ ((decide (c > 57) = false) → Q (AVal.bool false) ([])))) ∧ ((decide (c > 122) = false) → Q (AVal.bool false) ([])))
theorem odd_wp (c : Int) {Q : AVal → AState → Prop} (h : odd_T c Q) : ∃ r σ', FOk Tryd.prog 48 ([AVal.int IntKind.i32 c]) ([]) r σ' ∧ Q r σ' :=
  brE (fun (c0 : decide (c < 97) = true) => brE (fun (c1 : decide (c < 48) = true) => ⟨_, _, odd_1 c (c1) (c0), ((h.1 c0).1 c1)⟩) (fun (c1 : decide (c < 48) = false) => brE (fun (c2 : decide (c > 57) = true) => ⟨_, _, odd_2 c (c2) (c1) (c0), (((h.1 c0).2 c1).1 c2)⟩) (fun (c2 : decide (c > 57) = false) => ⟨_, _, odd_3 c (c2) (c1) (c0), (((h.1 c0).2 c1).2 c2)⟩))) (fun (c0 : decide (c < 97) = false) => brE (fun (c3 : decide (c > 122) = true) => brE (fun (c4 : decide (c < 48) = true) => ⟨_, _, odd_4 c (c4) (c3) (c0), (((h.2 c0).1 c3).1 c4)⟩) (fun (c4 : decide (c < 48) = false) => brE (fun (c5 : decide (c > 57) = true) => ⟨_, _, odd_5 c (c5) (c4) (c3) (c0), ((((h.2 c0).1 c3).2 c4).1 c5)⟩) (fun (c5 : decide (c > 57) = false) => ⟨_, _, odd_6 c (c5) (c4) (c3) (c0), ((((h.2 c0).1 c3).2 c4).2 c5)⟩))) (fun (c3 : decide (c > 122) = false) => ⟨_, _, odd_7 c (c3) (c0), ((h.2 c0).2 c3)⟩))


def rgIx : Regs := mkR 21 [(1, .func 48 []), (2, .bool true), (10, .ptr 0 1 0 0)]
theorem ixR_1 (p : Nat) (c : Int) (b : Bool) (rest : List (Nat × Int))
    (h1 : (b == true) = true)
    (h2 : FOk Tryd.prog 48 [AVal.int IntKind.i32 (Prod.snd (p, c))] [] (AVal.bool b) []) :
    TripN Tryd.prog 0 (loopNo Tryd.f78 0) (rgIx) ([AObj.siter ((p, c) :: rest)]) (AExit.ret) (mkR 21 [(6, iqNL (↑(Prod.fst (p, c)) : Int))]) ([]) :=
  evalT (st := St.mk (rgIx) ([AObj.siter ((p, c) :: rest)]) ([Dec.use [] [AVal.int IntKind.i32 (Prod.snd (p, c))] [] (AVal.bool b) [], Dec.br true]) []) (st' := St.mk (mkR 21 [(1, AVal.func 48 []), (2, AVal.bool true), (6, iqNL (↑(Prod.fst (p, c)) : Int)), (7, iqNL (↑(Prod.fst (p, c)) : Int)), (8, AVal.int IntKind.i32 (Prod.snd (p, c))), (10, AVal.ptr 0 1 0 0), (11, AVal.tuple [AVal.tt true, iqNL (↑(Prod.fst (p, c)) : Int), AVal.int IntKind.i32 (Prod.snd (p, c))]), (12, AVal.tt true), (13, iqNL (↑(Prod.fst (p, c)) : Int)), (14, AVal.int IntKind.i32 (Prod.snd (p, c))), (15, AVal.func 48 []), (16, AVal.int IntKind.i32 (Prod.snd (p, c))), (17, AVal.bool b), (18, AVal.bool true), (19, AVal.tt true), (20, iqNL (↑(Prod.fst (p, c)) : Int))]) ([AObj.siter rest]) ([]) (((b == true) = true) :: ((Owed.use (owed Tryd.prog 0) 48 [] [AVal.int IntKind.i32 (Prod.snd (p, c))] [AObj.siter rest] [AVal.int IntKind.i32 (Prod.snd (p, c))] [] (AVal.bool b) []) :: []))) followed (by kernel_rfl) (allP_of ⟨h1, ⟨⟨h2, rfl, rfl, rfl⟩, trivial⟩⟩) (keepM 21 [6]) ([]) (by kernel_rfl) (by kernel_rfl) (by kernel_rfl)

theorem ixR_2 (p : Nat) (c : Int) (b : Bool) (rest : List (Nat × Int))
    (h1 : (b == true) = false)
    (h2 : FOk Tryd.prog 48 [AVal.int IntKind.i32 (Prod.snd (p, c))] [] (AVal.bool b) []) :
    TripN Tryd.prog 0 (loopNo Tryd.f78 0) (rgIx) ([AObj.siter ((p, c) :: rest)]) (AExit.normal) (mkR 21 [(1, AVal.func 48 []), (2, AVal.bool true), (10, AVal.ptr 0 1 0 0)]) ([AObj.siter rest]) :=
  evalT (st := St.mk (rgIx) ([AObj.siter ((p, c) :: rest)]) ([Dec.use [] [AVal.int IntKind.i32 (Prod.snd (p, c))] [] (AVal.bool b) [], Dec.br false]) []) (st' := St.mk (mkR 21 [(1, AVal.func 48 []), (2, AVal.bool true), (7, iqNL (↑(Prod.fst (p, c)) : Int)), (8, AVal.int IntKind.i32 (Prod.snd (p, c))), (10, AVal.ptr 0 1 0 0), (11, AVal.tuple [AVal.tt true, iqNL (↑(Prod.fst (p, c)) : Int), AVal.int IntKind.i32 (Prod.snd (p, c))]), (12, AVal.tt true), (13, iqNL (↑(Prod.fst (p, c)) : Int)), (14, AVal.int IntKind.i32 (Prod.snd (p, c))), (15, AVal.func 48 []), (16, AVal.int IntKind.i32 (Prod.snd (p, c))), (17, AVal.bool b), (18, AVal.bool true), (19, AVal.tt false)]) ([AObj.siter rest]) ([]) (((b == true) = false) :: ((Owed.use (owed Tryd.prog 0) 48 [] [AVal.int IntKind.i32 (Prod.snd (p, c))] [AObj.siter rest] [AVal.int IntKind.i32 (Prod.snd (p, c))] [] (AVal.bool b) []) :: []))) followed (by kernel_rfl) (allP_of ⟨h1, ⟨⟨h2, rfl, rfl, rfl⟩, trivial⟩⟩) (keepM 21 [1, 2, 10]) ([0]) (by kernel_rfl) (by kernel_rfl) (by kernel_rfl)

def ixR_T (p : Nat) (c : Int) (b : Bool) (rest : List (Nat × Int)) (Q : AExit → Regs → AState → Prop) : Prop := (FOk Tryd.prog 48 [AVal.int IntKind.i32 (Prod.snd (p, c))] [] (AVal.bool b) []) ∧ (((b == true) = true) → Q (AExit.ret) (mkR 21 [(6, AVal.int IntKind.i64 (↑(Prod.fst (p, c)) : Int))]) ([])) ∧ (((b == true) = false) → Q (AExit.normal) (mkR 21 [(1, AVal.func 48 []), (2, AVal.bool true), (10, AVal.ptr 0 1 0 0)]) ([AObj.siter rest]))
theorem ixR_wp (p : Nat) (c : Int) (b : Bool) (rest : List (Nat × Int)) {Q : AExit → Regs → AState → Prop} (h : ixR_T p c b rest Q) : ∃ e rg' σ', TripN Tryd.prog 0 (loopNo Tryd.f78 0) (rgIx) ([AObj.siter ((p, c) :: rest)]) e rg' σ' ∧ Q e rg' σ' :=
  brE (fun (c0 : (b == true) = true) => ⟨_, _, _, ixR_1 p c b rest (c0) (h.1), (h.2.1 c0)⟩) (fun (c0 : (b == true) = false) => ⟨_, _, _, ixR_2 p c b rest (c0) (h.1), (h.2.2 c0)⟩)


theorem ixX_1 :
    TripN Tryd.prog 0 (loopNo Tryd.f78 0) (rgIx) ([AObj.siter []]) (AExit.exit 0) (mkR 21 [(1, AVal.func 48 []), (2, AVal.bool true), (10, AVal.ptr 0 1 0 0)]) ([AObj.siter []]) :=
  evalT (st := St.mk (rgIx) ([AObj.siter []]) ([]) []) (st' := St.mk (mkR 21 [(1, AVal.func 48 []), (2, AVal.bool true), (10, AVal.ptr 0 1 0 0), (11, AVal.tuple [AVal.tt false]), (12, AVal.tt false)]) ([AObj.siter []]) ([]) []) followed (by kernel_rfl) (allP_of trivial) (keepM 21 [1, 2, 10]) ([0]) (by kernel_rfl) (by kernel_rfl) (by kernel_rfl)

def ixX_T (Q : AExit → Regs → AState → Prop) : Prop := Q (AExit.exit 0) (mkR 21 [(1, AVal.func 48 []), (2, AVal.bool true), (10, AVal.ptr 0 1 0 0)]) ([AObj.siter []])
theorem ixX_wp {Q : AExit → Regs → AState → Prop} (h : ixX_T Q) : ∃ e rg' σ', TripN Tryd.prog 0 (loopNo Tryd.f78 0) (rgIx) ([AObj.siter []]) e rg' σ' ∧ Q e rg' σ' :=
  ⟨_, _, _, ixX_1, h⟩


theorem ixN_1 (s : ByteArray)
    (h1 : TripN Tryd.prog 0 (Code.loop (loopNo Tryd.f78 0)) (mkR 21 [(1, AVal.func 48 []), (2, AVal.bool true), (10, AVal.ptr 0 1 0 0)]) [AObj.siter (runesOf s)] (AExit.exit 0) (mkR 21 [(1, AVal.func 48 []), (2, AVal.bool true), (10, AVal.ptr 0 1 0 0)]) [AObj.siter []]) :
    FOk Tryd.prog 78 ([AVal.str s, AVal.func 48 [], AVal.bool true]) ([]) (iqNL (-1)) ([]) :=
  (evalF_ok followed Tryd.func78 (by kernel_rfl) (show evalF Tryd.prog Tryd.f78 ([AVal.str s, AVal.func 48 [], AVal.bool true]) ([]) ([Dec.compact (keepM 21 [1, 2, 10]) [0], Dec.loop (AExit.exit 0) rgIx [AObj.siter []]]) = .ok (FRes.mk (iqNL (-1)) ([AObj.siter []]) ((Owed.loop (owed Tryd.prog 0) (loopNo Tryd.f78 0) (mkR 21 [(1, AVal.func 48 []), (2, AVal.bool true), (10, AVal.ptr 0 1 0 0)]) [AObj.siter (runesOf s)] (AExit.exit 0) (mkR 21 [(1, AVal.func 48 []), (2, AVal.bool true), (10, AVal.ptr 0 1 0 0)]) [AObj.siter []]) :: [])) by kernel_rfl) (allP_of ⟨h1, trivial⟩)).move ([]) (by kernel_rfl) (by kernel_rfl) (by kernel_rfl)

def ixN_T (s : ByteArray) (Q : AVal → AState → Prop) : Prop := (TripN Tryd.prog 0 (Code.loop (loopNo Tryd.f78 0)) (mkR 21 [(1, AVal.func 48 []), (2, AVal.bool true), (10, AVal.ptr 0 1 0 0)]) [AObj.siter (runesOf s)] (AExit.exit 0) (mkR 21 [(1, AVal.func 48 []), (2, AVal.bool true), (10, AVal.ptr 0 1 0 0)]) [AObj.siter []]) ∧ Q (AVal.int IntKind.i64 (-1)) ([])
theorem ixN_wp (s : ByteArray) {Q : AVal → AState → Prop} (h : ixN_T s Q) : ∃ r σ', FOk Tryd.prog 78 ([AVal.str s, AVal.func 48 [], AVal.bool true]) ([]) r σ' ∧ Q r σ' :=
  ⟨_, _, ixN_1 s (h.1), h.2⟩


theorem ixY_1 (s : ByteArray) (p : Nat)
    (h1 : TripN Tryd.prog 0 (Code.loop (loopNo Tryd.f78 0)) (mkR 21 [(1, AVal.func 48 []), (2, AVal.bool true), (10, AVal.ptr 0 1 0 0)]) [AObj.siter (runesOf s)] AExit.ret (mkR 21 [(6, iqNL (↑p : Int))]) []) :
    FOk Tryd.prog 78 ([AVal.str s, AVal.func 48 [], AVal.bool true]) ([]) (iqNL (↑p : Int)) ([]) :=
  (evalF_ok followed Tryd.func78 (by kernel_rfl) (show evalF Tryd.prog Tryd.f78 ([AVal.str s, AVal.func 48 [], AVal.bool true]) ([]) ([Dec.compact (keepM 21 [1, 2, 10]) [0], Dec.loop AExit.ret (mkR 21 [(6, iqNL (↑p : Int))]) []]) = .ok (FRes.mk (iqNL (↑p : Int)) ([]) ((Owed.loop (owed Tryd.prog 0) (loopNo Tryd.f78 0) (mkR 21 [(1, AVal.func 48 []), (2, AVal.bool true), (10, AVal.ptr 0 1 0 0)]) [AObj.siter (runesOf s)] AExit.ret (mkR 21 [(6, iqNL (↑p : Int))]) []) :: [])) by kernel_rfl) (allP_of ⟨h1, trivial⟩)).move ([]) (by kernel_rfl) (by kernel_rfl) (by kernel_rfl)

def ixY_T (s : ByteArray) (p : Nat) (Q : AVal → AState → Prop) : Prop := (TripN Tryd.prog 0 (Code.loop (loopNo Tryd.f78 0)) (mkR 21 [(1, AVal.func 48 []), (2, AVal.bool true), (10, AVal.ptr 0 1 0 0)]) [AObj.siter (runesOf s)] AExit.ret (mkR 21 [(6, AVal.int IntKind.i64 (↑p : Int))]) []) ∧ Q (AVal.int IntKind.i64 (↑p : Int)) ([])
theorem ixY_wp (s : ByteArray) (p : Nat) {Q : AVal → AState → Prop} (h : ixY_T s p Q) : ∃ r σ', FOk Tryd.prog 78 ([AVal.str s, AVal.func 48 [], AVal.bool true]) ([]) r σ' ∧ Q r σ' :=
  ⟨_, _, ixY_1 s p (h.1), h.2⟩


theorem idx_1 (s : ByteArray) (n : Int)
    (h1 : FOk Tryd.prog 78 [AVal.str s, AVal.func 48 [], AVal.bool true] [] (iqNL n) []) :
    FOk Tryd.prog 69 ([AVal.str s, AVal.func 48 []]) ([]) (iqNL n) ([]) :=
  (evalF_ok followed Tryd.func69 (by kernel_rfl) (show evalF Tryd.prog Tryd.f69 ([AVal.str s, AVal.func 48 []]) ([]) ([Dec.use [] [AVal.str s, AVal.func 48 [], AVal.bool true] [] (iqNL n) []]) = .ok (FRes.mk (iqNL n) ([]) ((Owed.use (owed Tryd.prog 0) 78 [] [AVal.str s, AVal.func 48 [], AVal.bool true] [] [AVal.str s, AVal.func 48 [], AVal.bool true] [] (iqNL n) []) :: [])) by kernel_rfl) (allP_of ⟨⟨h1, rfl, rfl, rfl⟩, trivial⟩)).move ([]) (by kernel_rfl) (by kernel_rfl) (by kernel_rfl)

def idx_T (s : ByteArray) (n : Int) (Q : AVal → AState → Prop) : Prop := (FOk Tryd.prog 78 [AVal.str s, AVal.func 48 [], AVal.bool true] [] (AVal.int IntKind.i64 n) []) ∧ Q (AVal.int IntKind.i64 n) ([])
theorem idx_wp (s : ByteArray) (n : Int) {Q : AVal → AState → Prop} (h : idx_T s n Q) : ∃ r σ', FOk Tryd.prog 69 ([AVal.str s, AVal.func 48 []]) ([]) r σ' ∧ Q r σ' :=
  ⟨_, _, idx_1 s n (h.1), h.2⟩


theorem has_1 (s : ByteArray) (n : Int)
    (h1 : FOk Tryd.prog 69 [AVal.str s, AVal.func 48 []] [] (iqNL n) []) :
    FOk Tryd.prog 49 ([AVal.str s, AVal.func 48 []]) ([]) (AVal.bool (decide (n ≥ 0))) ([]) :=
  (evalF_ok followed Tryd.func49 (by kernel_rfl) (show evalF Tryd.prog Tryd.f49 ([AVal.str s, AVal.func 48 []]) ([]) ([Dec.use [] [AVal.str s, AVal.func 48 []] [] (iqNL n) []]) = .ok (FRes.mk (AVal.bool (decide (n ≥ 0))) ([]) ((Owed.use (owed Tryd.prog 0) 69 [] [AVal.str s, AVal.func 48 []] [] [AVal.str s, AVal.func 48 []] [] (iqNL n) []) :: [])) by kernel_rfl) (allP_of ⟨⟨h1, rfl, rfl, rfl⟩, trivial⟩)).move ([]) (by kernel_rfl) (by kernel_rfl) (by kernel_rfl)

def has_T (s : ByteArray) (n : Int) (Q : AVal → AState → Prop) : Prop := (FOk Tryd.prog 69 [AVal.str s, AVal.func 48 []] [] (AVal.int IntKind.i64 n) []) ∧ Q (AVal.bool (decide (n ≥ 0))) ([])
theorem has_wp (s : ByteArray) (n : Int) {Q : AVal → AState → Prop} (h : has_T s n Q) : ∃ r σ', FOk Tryd.prog 49 ([AVal.str s, AVal.func 48 []]) ([]) r σ' ∧ Q r σ' :=
  ⟨_, _, has_1 s n (h.1), h.2⟩


theorem lab1_1 (a : ByteArray) (x : Bool)
    (h1 : (ByteArray.toList a == ByteArray.toList bqNL) = true) :
    FOk Tryd.prog 34 ([AVal.slc false 0 1 0 1 (some 1)]) ([AObj.rows true 1 [[AVal.str a]]]) (AVal.bool false) ([AObj.rows true 1 [[AVal.str a]]]) :=
  (evalF_ok followed Tryd.func34 (by kernel_rfl) (show evalF Tryd.prog Tryd.f34 ([AVal.slc false 0 1 0 1 (some 1)]) ([AObj.rows true 1 [[AVal.str a]]]) ([Dec.unroll 2, Dec.br true, Dec.br true]) = .ok (FRes.mk (AVal.bool false) ([AObj.rows true 1 [[AVal.str a]]]) (((ByteArray.toList a == ByteArray.toList bqNL) = true) :: (tr 5 ++ []))) by kernel_rfl) (allP_of ⟨h1, (trC 5 trivial)⟩)).move ([0]) (by kernel_rfl) (by kernel_rfl) (by kernel_rfl)

theorem lab1_2 (a : ByteArray) (x : Bool)
    (h1 : decide ((↑(ByteArray.size a) : Int) > 16) = true)
    (h2 : (ByteArray.toList a == ByteArray.toList bqNL) = false) :
    FOk Tryd.prog 34 ([AVal.slc false 0 1 0 1 (some 1)]) ([AObj.rows true 1 [[AVal.str a]]]) (AVal.bool false) ([AObj.rows true 1 [[AVal.str a]]]) :=
  (evalF_ok followed Tryd.func34 (by kernel_rfl) (show evalF Tryd.prog Tryd.f34 ([AVal.slc false 0 1 0 1 (some 1)]) ([AObj.rows true 1 [[AVal.str a]]]) ([Dec.unroll 2, Dec.br true, Dec.br false, Dec.br true]) = .ok (FRes.mk (AVal.bool false) ([AObj.rows true 1 [[AVal.str a]]]) ((decide ((↑(ByteArray.size a) : Int) > 16) = true) :: (((ByteArray.toList a == ByteArray.toList bqNL) = false) :: (tr 5 ++ [])))) by kernel_rfl) (allP_of ⟨h1, ⟨h2, (trC 5 trivial)⟩⟩)).move ([0]) (by kernel_rfl) (by kernel_rfl) (by kernel_rfl)

theorem lab1_3 (a : ByteArray) (x : Bool)
    (h1 : x = true)
    (h2 : FOk Tryd.prog 49 [AVal.str a, AVal.func 48 []] [] (AVal.bool x) [])
    (h3 : decide ((↑(ByteArray.size a) : Int) > 16) = false)
    (h4 : (ByteArray.toList a == ByteArray.toList bqNL) = false) :
    FOk Tryd.prog 34 ([AVal.slc false 0 1 0 1 (some 1)]) ([AObj.rows true 1 [[AVal.str a]]]) (AVal.bool false) ([AObj.rows true 1 [[AVal.str a]]]) :=
  (evalF_ok followed Tryd.func34 (by kernel_rfl) (show evalF Tryd.prog Tryd.f34 ([AVal.slc false 0 1 0 1 (some 1)]) ([AObj.rows true 1 [[AVal.str a]]]) ([Dec.unroll 2, Dec.br true, Dec.br false, Dec.br false, Dec.use [] [AVal.str a, AVal.func 48 []] [] (AVal.bool x) [], Dec.br true]) = .ok (FRes.mk (AVal.bool false) ([AObj.rows true 1 [[AVal.str a]]]) ((x = true) :: ((Owed.use (owed Tryd.prog 1) 49 [] [AVal.str a, AVal.func 48 []] [AObj.rows true 1 [[AVal.str a]]] [AVal.str a, AVal.func 48 []] [] (AVal.bool x) []) :: ((decide ((↑(ByteArray.size a) : Int) > 16) = false) :: (((ByteArray.toList a == ByteArray.toList bqNL) = false) :: (tr 5 ++ [])))))) by kernel_rfl) (allP_of ⟨h1, ⟨⟨h2, rfl, rfl, rfl⟩, ⟨h3, ⟨h4, (trC 5 trivial)⟩⟩⟩⟩)).move ([0]) (by kernel_rfl) (by kernel_rfl) (by kernel_rfl)

theorem lab1_4 (a : ByteArray) (x : Bool)
    (h1 : x = false)
    (h2 : FOk Tryd.prog 49 [AVal.str a, AVal.func 48 []] [] (AVal.bool x) [])
    (h3 : decide ((↑(ByteArray.size a) : Int) > 16) = false)
    (h4 : (ByteArray.toList a == ByteArray.toList bqNL) = false) :
    FOk Tryd.prog 34 ([AVal.slc false 0 1 0 1 (some 1)]) ([AObj.rows true 1 [[AVal.str a]]]) (AVal.bool true) ([AObj.rows true 1 [[AVal.str a]]]) :=
  (evalF_ok followed Tryd.func34 (by kernel_rfl) (show evalF Tryd.prog Tryd.f34 ([AVal.slc false 0 1 0 1 (some 1)]) ([AObj.rows true 1 [[AVal.str a]]]) ([Dec.unroll 2, Dec.br true, Dec.br false, Dec.br false, Dec.use [] [AVal.str a, AVal.func 48 []] [] (AVal.bool x) [], Dec.br false, Dec.br false]) = .ok (FRes.mk (AVal.bool true) ([AObj.rows true 1 [[AVal.str a]]]) ((false = false) :: ((x = false) :: ((Owed.use (owed Tryd.prog 1) 49 [] [AVal.str a, AVal.func 48 []] [AObj.rows true 1 [[AVal.str a]]] [AVal.str a, AVal.func 48 []] [] (AVal.bool x) []) :: ((decide ((↑(ByteArray.size a) : Int) > 16) = false) :: (((ByteArray.toList a == ByteArray.toList bqNL) = false) :: (tr 5 ++ []))))))) by kernel_rfl) (allP_of ⟨rfl, ⟨h1, ⟨⟨h2, rfl, rfl, rfl⟩, ⟨h3, ⟨h4, (trC 5 trivial)⟩⟩⟩⟩⟩)).move ([0]) (by kernel_rfl) (by kernel_rfl) (by kernel_rfl)

def lab1_T (a : ByteArray) (x : Bool) (Q : AVal → AState → Prop) : Prop := (((ByteArray.toList a == ByteArray.toList (ByteArray.mk #[])) = true) → Q (AVal.bool false) ([AObj.rows true 1 [[AVal.str a]]])) ∧ (((ByteArray.toList a == ByteArray.toList (ByteArray.mk #[])) = false) → ((decide ((↑(ByteArray.size a) : Int) > 16) = true) → Q (AVal.bool false) ([AObj.rows true 1 [[AVal.str a]]])) ∧ ((decide ((↑(ByteArray.size a) : Int) > 16) = false) → (FOk Tryd.prog 49 [AVal.str a, AVal.func 48 []] [] (AVal.bool x) []) ∧ ((x = true) → Q (AVal.bool false) ([AObj.rows true 1 [[AVal.str a]]])) ∧ ((x = false) → Q (AVal.bool true) ([AObj.rows true 1 [[AVal.str a]]]))))
theorem lab1_wp (a : ByteArray) (x : Bool) {Q : AVal → AState → Prop} (h : lab1_T a x Q) : ∃ r σ', FOk Tryd.prog 34 ([AVal.slc false 0 1 0 1 (some 1)]) ([AObj.rows true 1 [[AVal.str a]]]) r σ' ∧ Q r σ' :=
  brE (fun (c0 : (ByteArray.toList a == ByteArray.toList bqNL) = true) => ⟨_, _, lab1_1 a x (c0), (h.1 c0)⟩) (fun (c0 : (ByteArray.toList a == ByteArray.toList bqNL) = false) => brE (fun (c1 : decide ((↑(ByteArray.size a) : Int) > 16) = true) => ⟨_, _, lab1_2 a x (c1) (c0), ((h.2 c0).1 c1)⟩) (fun (c1 : decide ((↑(ByteArray.size a) : Int) > 16) = false) => brE (fun (c2 : x = true) => ⟨_, _, lab1_3 a x (c2) (((h.2 c0).2 c1).1) (c1) (c0), (((h.2 c0).2 c1).2.1 c2)⟩) (fun (c2 : x = false) => ⟨_, _, lab1_4 a x (c2) (((h.2 c0).2 c1).1) (c1) (c0), (((h.2 c0).2 c1).2.2 c2)⟩)))


theorem lab2_1 (a : ByteArray) (b : ByteArray) (x : Bool) (y : Bool)
    (h1 : (ByteArray.toList a == ByteArray.toList bqNL) = true) :
    FOk Tryd.prog 34 ([AVal.slc false 0 1 0 2 (some 2)]) ([AObj.rows true 1 [[AVal.str a], [AVal.str b]]]) (AVal.bool false) ([AObj.rows true 1 [[AVal.str a], [AVal.str b]]]) :=
  (evalF_ok followed Tryd.func34 (by kernel_rfl) (show evalF Tryd.prog Tryd.f34 ([AVal.slc false 0 1 0 2 (some 2)]) ([AObj.rows true 1 [[AVal.str a], [AVal.str b]]]) ([Dec.unroll 3, Dec.br true, Dec.br true]) = .ok (FRes.mk (AVal.bool false) ([AObj.rows true 1 [[AVal.str a], [AVal.str b]]]) (((ByteArray.toList a == ByteArray.toList bqNL) = true) :: (tr 5 ++ []))) by kernel_rfl) (allP_of ⟨h1, (trC 5 trivial)⟩)).move ([0]) (by kernel_rfl) (by kernel_rfl) (by kernel_rfl)

theorem lab2_2 (a : ByteArray) (b : ByteArray) (x : Bool) (y : Bool)
    (h1 : decide ((↑(ByteArray.size a) : Int) > 16) = true)
    (h2 : (ByteArray.toList a == ByteArray.toList bqNL) = false) :
    FOk Tryd.prog 34 ([AVal.slc false 0 1 0 2 (some 2)]) ([AObj.rows true 1 [[AVal.str a], [AVal.str b]]]) (AVal.bool false) ([AObj.rows true 1 [[AVal.str a], [AVal.str b]]]) :=
  (evalF_ok followed Tryd.func34 (by kernel_rfl) (show evalF Tryd.prog Tryd.f34 ([AVal.slc false 0 1 0 2 (some 2)]) ([AObj.rows true 1 [[AVal.str a], [AVal.str b]]]) ([Dec.unroll 3, Dec.br true, Dec.br false, Dec.br true]) = .ok (FRes.mk (AVal.bool false) ([AObj.rows true 1 [[AVal.str a], [AVal.str b]]]) ((decide ((↑(ByteArray.size a) : Int) > 16) = true) :: (((ByteArray.toList a == ByteArray.toList bqNL) = false) :: (tr 5 ++ [])))) by kernel_rfl) (allP_of ⟨h1, ⟨h2, (trC 5 trivial)⟩⟩)).move ([0]) (by kernel_rfl) (by kernel_rfl) (by kernel_rfl)

theorem lab2_3 (a : ByteArray) (b : ByteArray) (x : Bool) (y : Bool)
    (h1 : x = true)
    (h2 : FOk Tryd.prog 49 [AVal.str a, AVal.func 48 []] [] (AVal.bool x) [])
    (h3 : decide ((↑(ByteArray.size a) : Int) > 16) = false)
    (h4 : (ByteArray.toList a == ByteArray.toList bqNL) = false) :
    FOk Tryd.prog 34 ([AVal.slc false 0 1 0 2 (some 2)]) ([AObj.rows true 1 [[AVal.str a], [AVal.str b]]]) (AVal.bool false) ([AObj.rows true 1 [[AVal.str a], [AVal.str b]]]) :=
  (evalF_ok followed Tryd.func34 (by kernel_rfl) (show evalF Tryd.prog Tryd.f34 ([AVal.slc false 0 1 0 2 (some 2)]) ([AObj.rows true 1 [[AVal.str a], [AVal.str b]]]) ([Dec.unroll 3, Dec.br true, Dec.br false, Dec.br false, Dec.use [] [AVal.str a, AVal.func 48 []] [] (AVal.bool x) [], Dec.br true]) = .ok (FRes.mk (AVal.bool false) ([AObj.rows true 1 [[AVal.str a], [AVal.str b]]]) ((x = true) :: ((Owed.use (owed Tryd.prog 1) 49 [] [AVal.str a, AVal.func 48 []] [AObj.rows true 1 [[AVal.str a], [AVal.str b]]] [AVal.str a, AVal.func 48 []] [] (AVal.bool x) []) :: ((decide ((↑(ByteArray.size a) : Int) > 16) = false) :: (((ByteArray.toList a == ByteArray.toList bqNL) = false) :: (tr 5 ++ [])))))) by kernel_rfl) (allP_of ⟨h1, ⟨⟨h2, rfl, rfl, rfl⟩, ⟨h3, ⟨h4, (trC 5 trivial)⟩⟩⟩⟩)).move ([0]) (by kernel_rfl) (by kernel_rfl) (by kernel_rfl)

theorem lab2_4 (a : ByteArray) (b : ByteArray) (x : Bool) (y : Bool)
    (h1 : (ByteArray.toList b == ByteArray.toList bqNL) = true)
    (h2 : x = false)
    (h3 : FOk Tryd.prog 49 [AVal.str a, AVal.func 48 []] [] (AVal.bool x) [])
    (h4 : decide ((↑(ByteArray.size a) : Int) > 16) = false)
    (h5 : (ByteArray.toList a == ByteArray.toList bqNL) = false) :
    FOk Tryd.prog 34 ([AVal.slc false 0 1 0 2 (some 2)]) ([AObj.rows true 1 [[AVal.str a], [AVal.str b]]]) (AVal.bool false) ([AObj.rows true 1 [[AVal.str a], [AVal.str b]]]) :=
  (evalF_ok followed Tryd.func34 (by kernel_rfl) (show evalF Tryd.prog Tryd.f34 ([AVal.slc false 0 1 0 2 (some 2)]) ([AObj.rows true 1 [[AVal.str a], [AVal.str b]]]) ([Dec.unroll 3, Dec.br true, Dec.br false, Dec.br false, Dec.use [] [AVal.str a, AVal.func 48 []] [] (AVal.bool x) [], Dec.br false, Dec.br true, Dec.br true]) = .ok (FRes.mk (AVal.bool false) ([AObj.rows true 1 [[AVal.str a], [AVal.str b]]]) (((ByteArray.toList b == ByteArray.toList bqNL) = true) :: (tr 5 ++ ((x = false) :: ((Owed.use (owed Tryd.prog 1) 49 [] [AVal.str a, AVal.func 48 []] [AObj.rows true 1 [[AVal.str a], [AVal.str b]]] [AVal.str a, AVal.func 48 []] [] (AVal.bool x) []) :: ((decide ((↑(ByteArray.size a) : Int) > 16) = false) :: (((ByteArray.toList a == ByteArray.toList bqNL) = false) :: (tr 5 ++ [])))))))) by kernel_rfl) (allP_of ⟨h1, (trC 5 ⟨h2, ⟨⟨h3, rfl, rfl, rfl⟩, ⟨h4, ⟨h5, (trC 5 trivial)⟩⟩⟩⟩)⟩)).move ([0]) (by kernel_rfl) (by kernel_rfl) (by kernel_rfl)

theorem lab2_5 (a : ByteArray) (b : ByteArray) (x : Bool) (y : Bool)
    (h1 : decide ((↑(ByteArray.size b) : Int) > 16) = true)
    (h2 : (ByteArray.toList b == ByteArray.toList bqNL) = false)
    (h3 : x = false)
    (h4 : FOk Tryd.prog 49 [AVal.str a, AVal.func 48 []] [] (AVal.bool x) [])
    (h5 : decide ((↑(ByteArray.size a) : Int) > 16) = false)
    (h6 : (ByteArray.toList a == ByteArray.toList bqNL) = false) :
    FOk Tryd.prog 34 ([AVal.slc false 0 1 0 2 (some 2)]) ([AObj.rows true 1 [[AVal.str a], [AVal.str b]]]) (AVal.bool false) ([AObj.rows true 1 [[AVal.str a], [AVal.str b]]]) :=
  (evalF_ok followed Tryd.func34 (by kernel_rfl) (show evalF Tryd.prog Tryd.f34 ([AVal.slc false 0 1 0 2 (some 2)]) ([AObj.rows true 1 [[AVal.str a], [AVal.str b]]]) ([Dec.unroll 3, Dec.br true, Dec.br false, Dec.br false, Dec.use [] [AVal.str a, AVal.func 48 []] [] (AVal.bool x) [], Dec.br false, Dec.br true, Dec.br false, Dec.br true]) = .ok (FRes.mk (AVal.bool false) ([AObj.rows true 1 [[AVal.str a], [AVal.str b]]]) ((decide ((↑(ByteArray.size b) : Int) > 16) = true) :: (((ByteArray.toList b == ByteArray.toList bqNL) = false) :: (tr 5 ++ ((x = false) :: ((Owed.use (owed Tryd.prog 1) 49 [] [AVal.str a, AVal.func 48 []] [AObj.rows true 1 [[AVal.str a], [AVal.str b]]] [AVal.str a, AVal.func 48 []] [] (AVal.bool x) []) :: ((decide ((↑(ByteArray.size a) : Int) > 16) = false) :: (((ByteArray.toList a == ByteArray.toList bqNL) = false) :: (tr 5 ++ []))))))))) by kernel_rfl) (allP_of ⟨h1, ⟨h2, (trC 5 ⟨h3, ⟨⟨h4, rfl, rfl, rfl⟩, ⟨h5, ⟨h6, (trC 5 trivial)⟩⟩⟩⟩)⟩⟩)).move ([0]) (by kernel_rfl) (by kernel_rfl) (by kernel_rfl)

theorem lab2_6 (a : ByteArray) (b : ByteArray) (x : Bool) (y : Bool)
    (h1 : y = true)
    (h2 : FOk Tryd.prog 49 [AVal.str b, AVal.func 48 []] [] (AVal.bool y) [])
    (h3 : decide ((↑(ByteArray.size b) : Int) > 16) = false)
    (h4 : (ByteArray.toList b == ByteArray.toList bqNL) = false)
    (h5 : x = false)
    (h6 : FOk Tryd.prog 49 [AVal.str a, AVal.func 48 []] [] (AVal.bool x) [])
    (h7 : decide ((↑(ByteArray.size a) : Int) > 16) = false)
    (h8 : (ByteArray.toList a == ByteArray.toList bqNL) = false) :
    FOk Tryd.prog 34 ([AVal.slc false 0 1 0 2 (some 2)]) ([AObj.rows true 1 [[AVal.str a], [AVal.str b]]]) (AVal.bool false) ([AObj.rows true 1 [[AVal.str a], [AVal.str b]]]) :=
  (evalF_ok followed Tryd.func34 (by kernel_rfl) (show evalF Tryd.prog Tryd.f34 ([AVal.slc false 0 1 0 2 (some 2)]) ([AObj.rows true 1 [[AVal.str a], [AVal.str b]]]) ([Dec.unroll 3, Dec.br true, Dec.br false, Dec.br false, Dec.use [] [AVal.str a, AVal.func 48 []] [] (AVal.bool x) [], Dec.br false, Dec.br true, Dec.br false, Dec.br false, Dec.use [] [AVal.str b, AVal.func 48 []] [] (AVal.bool y) [], Dec.br true]) = .ok (FRes.mk (AVal.bool false) ([AObj.rows true 1 [[AVal.str a], [AVal.str b]]]) ((y = true) :: ((Owed.use (owed Tryd.prog 1) 49 [] [AVal.str b, AVal.func 48 []] [AObj.rows true 1 [[AVal.str a], [AVal.str b]]] [AVal.str b, AVal.func 48 []] [] (AVal.bool y) []) :: ((decide ((↑(ByteArray.size b) : Int) > 16) = false) :: (((ByteArray.toList b == ByteArray.toList bqNL) = false) :: (tr 5 ++ ((x = false) :: ((Owed.use (owed Tryd.prog 1) 49 [] [AVal.str a, AVal.func 48 []] [AObj.rows true 1 [[AVal.str a], [AVal.str b]]] [AVal.str a, AVal.func 48 []] [] (AVal.bool x) []) :: ((decide ((↑(ByteArray.size a) : Int) > 16) = false) :: (((ByteArray.toList a == ByteArray.toList bqNL) = false) :: (tr 5 ++ []))))))))))) by kernel_rfl) (allP_of ⟨h1, ⟨⟨h2, rfl, rfl, rfl⟩, ⟨h3, ⟨h4, (trC 5 ⟨h5, ⟨⟨h6, rfl, rfl, rfl⟩, ⟨h7, ⟨h8, (trC 5 trivial)⟩⟩⟩⟩)⟩⟩⟩⟩)).move ([0]) (by kernel_rfl) (by kernel_rfl) (by kernel_rfl)

theorem lab2_7 (a : ByteArray) (b : ByteArray) (x : Bool) (y : Bool)
    (h1 : y = false)
    (h2 : FOk Tryd.prog 49 [AVal.str b, AVal.func 48 []] [] (AVal.bool y) [])
    (h3 : decide ((↑(ByteArray.size b) : Int) > 16) = false)
    (h4 : (ByteArray.toList b == ByteArray.toList bqNL) = false)
    (h5 : x = false)
    (h6 : FOk Tryd.prog 49 [AVal.str a, AVal.func 48 []] [] (AVal.bool x) [])
    (h7 : decide ((↑(ByteArray.size a) : Int) > 16) = false)
    (h8 : (ByteArray.toList a == ByteArray.toList bqNL) = false) :
    FOk Tryd.prog 34 ([AVal.slc false 0 1 0 2 (some 2)]) ([AObj.rows true 1 [[AVal.str a], [AVal.str b]]]) (AVal.bool true) ([AObj.rows true 1 [[AVal.str a], [AVal.str b]]]) :=
  (evalF_ok followed Tryd.func34 (by kernel_rfl) (show evalF Tryd.prog Tryd.f34 ([AVal.slc false 0 1 0 2 (some 2)]) ([AObj.rows true 1 [[AVal.str a], [AVal.str b]]]) ([Dec.unroll 3, Dec.br true, Dec.br false, Dec.br false, Dec.use [] [AVal.str a, AVal.func 48 []] [] (AVal.bool x) [], Dec.br false, Dec.br true, Dec.br false, Dec.br false, Dec.use [] [AVal.str b, AVal.func 48 []] [] (AVal.bool y) [], Dec.br false, Dec.br false]) = .ok (FRes.mk (AVal.bool true) ([AObj.rows true 1 [[AVal.str a], [AVal.str b]]]) ((false = false) :: ((y = false) :: ((Owed.use (owed Tryd.prog 1) 49 [] [AVal.str b, AVal.func 48 []] [AObj.rows true 1 [[AVal.str a], [AVal.str b]]] [AVal.str b, AVal.func 48 []] [] (AVal.bool y) []) :: ((decide ((↑(ByteArray.size b) : Int) > 16) = false) :: (((ByteArray.toList b == ByteArray.toList bqNL) = false) :: (tr 5 ++ ((x = false) :: ((Owed.use (owed Tryd.prog 1) 49 [] [AVal.str a, AVal.func 48 []] [AObj.rows true 1 [[AVal.str a], [AVal.str b]]] [AVal.str a, AVal.func 48 []] [] (AVal.bool x) []) :: ((decide ((↑(ByteArray.size a) : Int) > 16) = false) :: (((ByteArray.toList a == ByteArray.toList bqNL) = false) :: (tr 5 ++ [])))))))))))) by kernel_rfl) (allP_of ⟨rfl, ⟨h1, ⟨⟨h2, rfl, rfl, rfl⟩, ⟨h3, ⟨h4, (trC 5 ⟨h5, ⟨⟨h6, rfl, rfl, rfl⟩, ⟨h7, ⟨h8, (trC 5 trivial)⟩⟩⟩⟩)⟩⟩⟩⟩⟩)).move ([0]) (by kernel_rfl) (by kernel_rfl) (by kernel_rfl)

def lab2_T (a : ByteArray) (b : ByteArray) (x : Bool) (y : Bool) (Q : AVal → AState → Prop) : Prop := (((ByteArray.toList a == ByteArray.toList (ByteArray.mk #[])) = true) → Q (AVal.bool false) ([AObj.rows true 1 [[AVal.str a], [AVal.str b]]])) ∧ (((ByteArray.toList a == ByteArray.toList (ByteArray.mk #[])) = false) → ((decide ((↑(ByteArray.size a) : Int) > 16) = true) → Q (AVal.bool false) ([AObj.rows true 1 [[AVal.str a], [AVal.str b]]])) ∧ ((decide ((↑(ByteArray.size a) : Int) > 16) = false) → (FOk Tryd.prog 49 [AVal.str a, AVal.func 48 []] [] (AVal.bool x) []) ∧ ((x = true) → Q (AVal.bool false) ([AObj.rows true 1 [[AVal.str a], [AVal.str b]]])) ∧ ((x = false) → (((ByteArray.toList b == ByteArray.toList (ByteArray.mk #[])) = true) → Q (AVal.bool false) ([AObj.rows true 1 [[AVal.str a], [AVal.str b]]])) ∧ (((ByteArray.toList b == ByteArray.toList (ByteArray.mk #[])) = false) → ((decide ((↑(ByteArray.size b) : Int) > 16) = true) → Q (AVal.bool false) ([AObj.rows true 1 [[AVal.str a], [AVal.str b]]])) ∧ ((decide ((↑(ByteArray.size b) : Int) > 16) = false) → (FOk Tryd.prog 49 [AVal.str b, AVal.func 48 []] [] (AVal.bool y) []) ∧ ((y = true) → Q (AVal.bool false) ([AObj.rows true 1 [[AVal.str a], [AVal.str b]]])) ∧ ((y = false) → Q (AVal.bool true) ([AObj.rows true 1 [[AVal.str a], [AVal.str b]]])))))))
theorem lab2_wp (a : ByteArray) (b : ByteArray) (x : Bool) (y : Bool) {Q : AVal → AState → Prop} (h : lab2_T a b x y Q) : ∃ r σ', FOk Tryd.prog 34 ([AVal.slc false 0 1 0 2 (some 2)]) ([AObj.rows true 1 [[AVal.str a], [AVal.str b]]]) r σ' ∧ Q r σ' :=
  brE (fun (c0 : (ByteArray.toList a == ByteArray.toList bqNL) = true) => ⟨_, _, lab2_1 a b x y (c0), (h.1 c0)⟩) (fun (c0 : (ByteArray.toList a == ByteArray.toList bqNL) = false) => brE (fun (c1 : decide ((↑(ByteArray.size a) : Int) > 16) = true) => ⟨_, _, lab2_2 a b x y (c1) (c0), ((h.2 c0).1 c1)⟩) (fun (c1 : decide ((↑(ByteArray.size a) : Int) > 16) = false) => brE (fun (c2 : x = true) => ⟨_, _, lab2_3 a b x y (c2) (((h.2 c0).2 c1).1) (c1) (c0), (((h.2 c0).2 c1).2.1 c2)⟩) (fun (c2 : x = false) => brE (fun (c3 : (ByteArray.toList b == ByteArray.toList bqNL) = true) => ⟨_, _, lab2_4 a b x y (c3) (c2) (((h.2 c0).2 c1).1) (c1) (c0), ((((h.2 c0).2 c1).2.2 c2).1 c3)⟩) (fun (c3 : (ByteArray.toList b == ByteArray.toList bqNL) = false) => brE (fun (c4 : decide ((↑(ByteArray.size b) : Int) > 16) = true) => ⟨_, _, lab2_5 a b x y (c4) (c3) (c2) (((h.2 c0).2 c1).1) (c1) (c0), (((((h.2 c0).2 c1).2.2 c2).2 c3).1 c4)⟩) (fun (c4 : decide ((↑(ByteArray.size b) : Int) > 16) = false) => brE (fun (c5 : y = true) => ⟨_, _, lab2_6 a b x y (c5) ((((((h.2 c0).2 c1).2.2 c2).2 c3).2 c4).1) (c4) (c3) (c2) (((h.2 c0).2 c1).1) (c1) (c0), ((((((h.2 c0).2 c1).2.2 c2).2 c3).2 c4).2.1 c5)⟩) (fun (c5 : y = false) => ⟨_, _, lab2_7 a b x y (c5) ((((((h.2 c0).2 c1).2.2 c2).2 c3).2 c4).1) (c4) (c3) (c2) (((h.2 c0).2 c1).1) (c1) (c0), ((((((h.2 c0).2 c1).2.2 c2).2 c3).2 c4).2.2 c5)⟩))))))


end Go.MN
end

section
set_option linter.unusedVariables false
set_option linter.unusedSimpArgs false
set_option maxRecDepth 100000
namespace Go.MN
open Go Go.Abs Go.Proofs
def oddZ (c : Int) : Bool := (decide (c < 97) || decide (c > 122)) && ((decide (c < 48) || decide (c > 57)) && (c != 45))
theorem odd_ok (c : Int) : FOk Tryd.prog 48 [.int .i32 c] [] (.bool (oddZ c)) [] := by
  refine FOk.wp (odd_wp c ?_)
  unfold odd_T oddZ
  refine ⟨fun h1 => ?_, fun h1 => ?_⟩
  · rw [h1]
    refine ⟨fun h2 => ?_, fun h2 => ?_⟩
    · rw [h2]; exact ⟨by simp, rfl⟩
    · rw [h2]
      refine ⟨fun h3 => ?_, fun h3 => ?_⟩
      · rw [h3]; exact ⟨by simp, rfl⟩
      · rw [h3]; exact ⟨by simp, rfl⟩
  · rw [h1]
    refine ⟨fun h2 => ?_, fun h2 => ?_⟩
    · rw [h2]
      refine ⟨fun h3 => ?_, fun h3 => ?_⟩
      · rw [h3]; exact ⟨by simp, rfl⟩
      · rw [h3]
        refine ⟨fun h4 => ?_, fun h4 => ?_⟩
        · rw [h4]; exact ⟨by simp, rfl⟩
        · rw [h4]; exact ⟨by simp, rfl⟩
    · rw [h2]; exact ⟨by simp, rfl⟩
def anyR (l : List (Nat × Int)) : Bool := l.any fun x => oddZ x.2
theorem ix_loop : ∀ (l : List (Nat × Int)),
    (anyR l = false ∧ LoopRun Tryd.prog 0 (loopNo Tryd.f78 0) rgIx [.siter l] (.exit 0) rgIx [.siter []]) ∨
    (anyR l = true ∧ ∃ p : Nat, LoopRun Tryd.prog 0 (loopNo Tryd.f78 0) rgIx [.siter l] .ret (mkR 21 [(6, .int .i64 (p : Int))]) [])
  | [] => .inl ⟨rfl, .done (TripN.wp (ixX_wp ⟨rfl, rfl, rfl⟩)) (by simp)⟩
  | (p, c) :: l => by
    cases hc : oddZ c with
    | true =>
      refine .inr ⟨by simp [anyR, hc], p, .done (TripN.wp (ixR_wp p c true l ?_)) (by simp)⟩
      unfold ixR_T
      have := odd_ok c
      rw [hc] at this
      exact ⟨this, fun _ => ⟨rfl, rfl, rfl⟩, fun h => by cases h⟩
    | false =>
      have t : TripN Tryd.prog 0 (loopNo Tryd.f78 0) rgIx [.siter ((p, c) :: l)] .normal rgIx [.siter l] := by
        refine TripN.wp (ixR_wp p c false l ?_)
        unfold ixR_T
        have := odd_ok c
        rw [hc] at this
        exact ⟨this, fun h => (by cases h), fun _ => ⟨rfl, rfl, rfl⟩⟩
      rcases ix_loop l with ⟨h, r⟩ | ⟨h, q, r⟩
      · exact .inl ⟨by simpa [anyR, hc] using h, .more t r⟩
      · exact .inr ⟨by simp only [anyR, List.any_cons, hc, Bool.false_or]; exact h, q, .more t r⟩
theorem has_ok (s : ByteArray) : FOk Tryd.prog 49 [.str s, .func 48 []] [] (.bool (anyR (runesOf s))) [] := by
  rcases ix_loop (runesOf s) with ⟨h, r⟩ | ⟨h, p, r⟩
  · have h1 : FOk Tryd.prog 78 [.str s, .func 48 [], .bool true] [] (.int .i64 (-1)) [] := FOk.wp (ixN_wp s ⟨r.trip, rfl, rfl⟩)
    have h2 : FOk Tryd.prog 69 [.str s, .func 48 []] [] (.int .i64 (-1)) [] := FOk.wp (idx_wp s (-1) ⟨h1, rfl, rfl⟩)
    rw [h]
    exact FOk.wp (has_wp s (-1) ⟨h2, rfl, rfl⟩)
  · have h1 : FOk Tryd.prog 78 [.str s, .func 48 [], .bool true] [] (.int .i64 (p : Int)) [] := FOk.wp (ixY_wp s p ⟨r.trip, rfl, rfl⟩)
    have h2 : FOk Tryd.prog 69 [.str s, .func 48 []] [] (.int .i64 (p : Int)) [] := FOk.wp (idx_wp s p ⟨h1, rfl, rfl⟩)
    rw [h]
    refine FOk.wp (has_wp s p ⟨h2, ?_, rfl⟩)
    rw [show decide ((p : Int) ≥ 0) = true from decide_eq_true (by omega)]

theorem get_lB (s : ByteArray) (i : Nat) (h : i < s.size) : (s.get! i) = (lB s).getD i 0 := by
  cases s with
  | mk d =>
    show d[i]! = d.toList.getD i 0
    have hi : i < d.size := h
    rw [getElem!_pos d i hi, List.getD_eq_getElem?_getD, Array.getElem?_toList, Array.getElem?_eq_getElem hi]
    rfl
theorem decode_lo (s : ByteArray) (i : Nat) (h : (s.get! i).toNat < 128) : Utf8.decode s i = ((s.get! i).toNat, 1) := by
  unfold Utf8.decode
  dsimp only
  rw [if_pos (show (s.get! (i + 0)).toNat < 128 from h)]
  rfl
theorem decode_hi (s : ByteArray) (i : Nat) (h : ¬ (s.get! i).toNat < 128) : 128 ≤ (Utf8.decode s i).1 := by
  unfold Utf8.decode
  dsimp only
  rw [if_neg (show ¬ (s.get! (i + 0)).toNat < 128 from h)]
  split
  · split
    · rename_i hc; exact hc
    · decide
  · split
    · split
      · rename_i hc
        simp only [Bool.and_eq_true, decide_eq_true_eq] at hc
        exact Nat.le_trans (by decide) hc.1
      · decide
    · split
      · split
        · rename_i hc
          simp only [Bool.and_eq_true, decide_eq_true_eq] at hc
          exact Nat.le_trans (by decide) hc.1
        · decide
      · decide
def anyB (l : List UInt8) : Bool := l.any fun b => oddZ (b.toNat : Int)
theorem odd_hi {c : Int} (h : 128 ≤ c) : oddZ c = true := by
  unfold oddZ
  rw [show decide (c > 122) = true from decide_eq_true (by omega), show decide (c > 57) = true from decide_eq_true (by omega)]
  simp
  omega
theorem runes_any (s : ByteArray) : ∀ (n pos : Nat), s.size ≤ pos + n → anyR (runesF s n pos) = anyB ((lB s).drop pos)
  | 0, pos, h => by
    rw [List.drop_eq_nil_of_le (by rw [lB_length]; omega)]; rfl
  | n + 1, pos, h => by
    unfold runesF
    by_cases hp : pos < s.size
    · rw [show Nat.blt pos s.size = true by rw [Nat.blt_eq]; exact hp]
      dsimp only
      have hl : pos < (lB s).length := by rw [lB_length]; exact hp
      have hd : (lB s).drop pos = (lB s)[pos] :: (lB s).drop (pos + 1) := List.drop_eq_getElem_cons hl
      have hg : s.get! pos = (lB s)[pos] := by rw [get_lB s pos hp, List.getD_eq_getElem?_getD, List.getElem?_eq_getElem hl]; rfl
      rw [hd]
      by_cases hb : (s.get! pos).toNat < 128
      · rw [decode_lo s pos hb]
        have ih := runes_any s n (pos + 1) (by omega)
        simp only [anyR, anyB, List.any_cons] at ih ⊢
        rw [ih, hg]
      · have h1 := decode_hi s pos hb
        simp only [anyR, anyB, List.any_cons]
        rw [odd_hi (by omega), odd_hi (c := (((lB s)[pos]).toNat : Int)) (by rw [← hg]; omega)]
        rfl
    · rw [show Nat.blt pos s.size = false by rw [Bool.eq_false_iff]; intro c; rw [Nat.blt_eq] at c; exact hp c]
      rw [List.drop_eq_nil_of_le (by rw [lB_length]; omega)]; rfl
def labB (s : ByteArray) : Bool := decide (1 ≤ s.size) && (decide (s.size ≤ 16) && !anyB (lB s))
theorem has_lB (s : ByteArray) : FOk Tryd.prog 49 [.str s, .func 48 []] [] (.bool (anyB (lB s))) [] := by
  have := has_ok s
  rw [show anyR (runesOf s) = anyB (lB s) by unfold runesOf; rw [runes_any s s.size 0 (by omega), List.drop_zero]] at this
  exact this
theorem emp_eq (s : ByteArray) : (s.toList == (ByteArray.mk #[]).toList) = decide (s.size = 0) := by
  rw [toList_lB, toList_lB, show lB (ByteArray.mk #[]) = [] from rfl, ← lB_length]
  cases lB s <;> simp
theorem lab1_ok (a : ByteArray) : FOk Tryd.prog 34 [.slc false 0 1 0 1 (some 1)] [.rows true 1 [[.str a]]] (.bool (labB a)) [.rows true 1 [[.str a]]] := by
  refine FOk.wp (lab1_wp a (anyB (lB a)) ?_)
  unfold lab1_T labB
  rw [emp_eq]
  refine ⟨fun h => ⟨?_, rfl⟩, fun h => ⟨fun h2 => ⟨?_, rfl⟩, fun h2 => ⟨has_lB a, fun h3 => ⟨?_, rfl⟩, fun h3 => ⟨?_, rfl⟩⟩⟩⟩
  · have := of_decide_eq_true h; rw [decide_eq_false (show ¬ 1 ≤ a.size by omega)]; rfl
  · have := of_decide_eq_true h2; rw [decide_eq_false (show ¬ a.size ≤ 16 by omega)]; simp
  · rw [h3]; simp
  · have h := of_decide_eq_false h; have h2 := of_decide_eq_false h2
    rw [h3, decide_eq_true (show 1 ≤ a.size by omega), decide_eq_true (show a.size ≤ 16 by omega)]; rfl
theorem lab2_ok (a b : ByteArray) : FOk Tryd.prog 34 [.slc false 0 1 0 2 (some 2)] [.rows true 1 [[.str a], [.str b]]] (.bool (labB a && labB b)) [.rows true 1 [[.str a], [.str b]]] := by
  refine FOk.wp (lab2_wp a b (anyB (lB a)) (anyB (lB b)) ?_)
  unfold lab2_T labB
  rw [emp_eq, emp_eq]
  refine ⟨fun h => ⟨?_, rfl⟩, fun h => ⟨fun h2 => ⟨?_, rfl⟩, fun h2 => ⟨has_lB a, fun h3 => ⟨?_, rfl⟩, fun h3 => ⟨fun k => ⟨?_, rfl⟩, fun k => ⟨fun k2 => ⟨?_, rfl⟩, fun k2 => ⟨has_lB b, fun k3 => ⟨?_, rfl⟩, fun k3 => ⟨?_, rfl⟩⟩⟩⟩⟩⟩⟩
  · have := of_decide_eq_true h; rw [decide_eq_false (show ¬ 1 ≤ a.size by omega)]; rfl
  · have := of_decide_eq_true h2; rw [decide_eq_false (show ¬ a.size ≤ 16 by omega)]; simp
  · rw [h3]; simp
  · have := of_decide_eq_true k; rw [decide_eq_false (show ¬ 1 ≤ b.size by omega)]; simp
  · have := of_decide_eq_true k2; rw [decide_eq_false (show ¬ b.size ≤ 16 by omega)]; simp
  · rw [k3]; simp
  · have h := of_decide_eq_false h; have h2 := of_decide_eq_false h2; have k := of_decide_eq_false k; have k2 := of_decide_eq_false k2
    rw [h3, k3, decide_eq_true (show 1 ≤ a.size by omega), decide_eq_true (show a.size ≤ 16 by omega), decide_eq_true (show 1 ≤ b.size by omega), decide_eq_true (show b.size ≤ 16 by omega)]; rfl
end Go.MN
end

section
set_option linter.unusedVariables false
set_option maxRecDepth 100000
namespace Go.MN
open Go Go.Abs Go.Proofs
abbrev opv (k : Int) (s c u x y z : ByteArray) (f m : Int) : AVal := .agg [.int .i64 k, .str s, .str c, .str u, .str x, .str y, .str z, .int .i64 f, .int .i64 m]
abbrev e0 : ByteArray := ⟨#[]⟩
abbrev hsc (s c : ByteArray) : AState := [AObj.rows true 1 [[AVal.str s], [AVal.str c]]]
abbrev iqNO : Int → AVal := AVal.int IntKind.i64
abbrev bqNO : ByteArray := ByteArray.mk #[]
theorem vld_1 (x : ByteArray) (v : Bool)
    (h1 : FOk Tryd.prog 50 [AVal.str x] [] (AVal.bool v) []) :
    FOk Tryd.prog 35 ([AVal.str x]) ([]) (AVal.bool v) ([]) :=
  (evalF_ok followed Tryd.func35 (by kernel_rfl) (show evalF Tryd.prog Tryd.f35 ([AVal.str x]) ([]) ([Dec.use [] [AVal.str x] [] (AVal.bool v) []]) = .ok (FRes.mk (AVal.bool v) ([]) ((Owed.use (owed Tryd.prog 0) 50 [] [AVal.str x] [] [AVal.str x] [] (AVal.bool v) []) :: [])) by kernel_rfl) (allP_of ⟨⟨h1, rfl, rfl, rfl⟩, trivial⟩)).move ([]) (by kernel_rfl) (by kernel_rfl) (by kernel_rfl)

def vld_T (x : ByteArray) (v : Bool) (Q : AVal → AState → Prop) : Prop := (FOk Tryd.prog 50 [AVal.str x] [] (AVal.bool v) []) ∧ Q (AVal.bool v) ([])
theorem vld_wp (x : ByteArray) (v : Bool) {Q : AVal → AState → Prop} (h : vld_T x v Q) : ∃ r σ', FOk Tryd.prog 35 ([AVal.str x]) ([]) r σ' ∧ Q r σ' :=
  ⟨_, _, vld_1 x v (h.1), h.2⟩


theorem ck1_1 (s : ByteArray) (c : ByteArray) (u : ByteArray) (x : ByteArray) (y : ByteArray) (z : ByteArray) (f : Int) (m : Int) (l0 : Bool) (l1 : Bool) (v : Bool)
    (h1 : (!l0) = true)
    (h2 : FOk Tryd.prog 34 [AVal.slc false 0 1 0 2 (some 2)] (hsc s c) (AVal.bool l0) (hsc s c)) :
    FOk Tryd.prog 21 ([opv 1 s c u x y z f m]) ([]) (iqNO 1) ([]) :=
  (evalF_ok followed Tryd.func21 (by kernel_rfl) (show evalF Tryd.prog Tryd.f21 ([opv 1 s c u x y z f m]) ([]) ([Dec.use [2] [AVal.slc false 0 1 0 2 (some 2)] (hsc s c) (AVal.bool l0) (hsc s c), Dec.br true, Dec.br true]) = .ok (FRes.mk (iqNO 1) ([AObj.rows true 9 [[iqNO 1, AVal.str s, AVal.str c, AVal.str u, AVal.str x, AVal.str y, AVal.str z, iqNO f, iqNO m]], AObj.rows true 9 [[iqNO 1, AVal.str s, AVal.str c, AVal.str bqNO, AVal.str bqNO, AVal.str bqNO, AVal.str bqNO, iqNO 0, iqNO 0]], AObj.rows true 1 [[AVal.str s], [AVal.str c]]]) (((!l0) = true) :: (tr 4 ++ ((Owed.use (owed Tryd.prog 0) 34 [2] [AVal.slc false 2 1 0 2 (some 2)] [AObj.rows true 9 [[iqNO 1, AVal.str s, AVal.str c, AVal.str u, AVal.str x, AVal.str y, AVal.str z, iqNO f, iqNO m]], AObj.rows true 9 [[iqNO 1, AVal.str s, AVal.str c, AVal.str bqNO, AVal.str bqNO, AVal.str bqNO, AVal.str bqNO, iqNO 0, iqNO 0]], AObj.rows true 1 [[AVal.str s], [AVal.str c]]] [AVal.slc false 0 1 0 2 (some 2)] (hsc s c) (AVal.bool l0) (hsc s c)) :: (tr 17 ++ []))))) by kernel_rfl) (allP_of ⟨h1, (trC 4 ⟨⟨h2, rfl, rfl, rfl⟩, (trC 17 trivial)⟩)⟩)).move ([]) (by kernel_rfl) (by kernel_rfl) (by kernel_rfl)

theorem ck1_2 (s : ByteArray) (c : ByteArray) (u : ByteArray) (x : ByteArray) (y : ByteArray) (z : ByteArray) (f : Int) (m : Int) (l0 : Bool) (l1 : Bool) (v : Bool)
    (h1 : (!(fun r => true && r) ((fun r => ByteArray.toList s == ByteArray.toList s && r) ((fun r => ByteArray.toList c == ByteArray.toList c && r) ((fun r => [] == ByteArray.toList u && r) ((fun r => [] == ByteArray.toList x && r) ((fun r => [] == ByteArray.toList y && r) ((fun r => [] == ByteArray.toList z && r) ((fun r => 0 == f && r) ((fun r => 0 == m && r) true))))))))) = true)
    (h2 : (!l0) = false)
    (h3 : FOk Tryd.prog 34 [AVal.slc false 0 1 0 2 (some 2)] (hsc s c) (AVal.bool l0) (hsc s c)) :
    FOk Tryd.prog 21 ([opv 1 s c u x y z f m]) ([]) (iqNO 1) ([]) :=
  (evalF_ok followed Tryd.func21 (by kernel_rfl) (show evalF Tryd.prog Tryd.f21 ([opv 1 s c u x y z f m]) ([]) ([Dec.use [2] [AVal.slc false 0 1 0 2 (some 2)] (hsc s c) (AVal.bool l0) (hsc s c), Dec.br true, Dec.br false, Dec.br true]) = .ok (FRes.mk (iqNO 1) ([AObj.rows true 9 [[iqNO 1, AVal.str s, AVal.str c, AVal.str u, AVal.str x, AVal.str y, AVal.str z, iqNO f, iqNO m]], AObj.rows true 9 [[iqNO 1, AVal.str s, AVal.str c, AVal.str bqNO, AVal.str bqNO, AVal.str bqNO, AVal.str bqNO, iqNO 0, iqNO 0]], AObj.rows true 1 [[AVal.str s], [AVal.str c]]]) (((!(fun r => true && r) ((fun r => ByteArray.toList s == ByteArray.toList s && r) ((fun r => ByteArray.toList c == ByteArray.toList c && r) ((fun r => [] == ByteArray.toList u && r) ((fun r => [] == ByteArray.toList x && r) ((fun r => [] == ByteArray.toList y && r) ((fun r => [] == ByteArray.toList z && r) ((fun r => 0 == f && r) ((fun r => 0 == m && r) true))))))))) = true) :: (tr 6 ++ (((!l0) = false) :: (tr 4 ++ ((Owed.use (owed Tryd.prog 0) 34 [2] [AVal.slc false 2 1 0 2 (some 2)] [AObj.rows true 9 [[iqNO 1, AVal.str s, AVal.str c, AVal.str u, AVal.str x, AVal.str y, AVal.str z, iqNO f, iqNO m]], AObj.rows true 9 [[iqNO 1, AVal.str s, AVal.str c, AVal.str bqNO, AVal.str bqNO, AVal.str bqNO, AVal.str bqNO, iqNO 0, iqNO 0]], AObj.rows true 1 [[AVal.str s], [AVal.str c]]] [AVal.slc false 0 1 0 2 (some 2)] (hsc s c) (AVal.bool l0) (hsc s c)) :: (tr 17 ++ []))))))) by kernel_rfl) (allP_of ⟨h1, (trC 6 ⟨h2, (trC 4 ⟨⟨h3, rfl, rfl, rfl⟩, (trC 17 trivial)⟩)⟩)⟩)).move ([]) (by kernel_rfl) (by kernel_rfl) (by kernel_rfl)

theorem ck1_3 (s : ByteArray) (c : ByteArray) (u : ByteArray) (x : ByteArray) (y : ByteArray) (z : ByteArray) (f : Int) (m : Int) (l0 : Bool) (l1 : Bool) (v : Bool)
    (h1 : (!(fun r => true && r) ((fun r => ByteArray.toList s == ByteArray.toList s && r) ((fun r => ByteArray.toList c == ByteArray.toList c && r) ((fun r => [] == ByteArray.toList u && r) ((fun r => [] == ByteArray.toList x && r) ((fun r => [] == ByteArray.toList y && r) ((fun r => [] == ByteArray.toList z && r) ((fun r => 0 == f && r) ((fun r => 0 == m && r) true))))))))) = false)
    (h2 : (!l0) = false)
    (h3 : FOk Tryd.prog 34 [AVal.slc false 0 1 0 2 (some 2)] (hsc s c) (AVal.bool l0) (hsc s c)) :
    FOk Tryd.prog 21 ([opv 1 s c u x y z f m]) ([]) (iqNO 0) ([]) :=
  (evalF_ok followed Tryd.func21 (by kernel_rfl) (show evalF Tryd.prog Tryd.f21 ([opv 1 s c u x y z f m]) ([]) ([Dec.use [2] [AVal.slc false 0 1 0 2 (some 2)] (hsc s c) (AVal.bool l0) (hsc s c), Dec.br true, Dec.br false, Dec.br false]) = .ok (FRes.mk (iqNO 0) ([AObj.rows true 9 [[iqNO 1, AVal.str s, AVal.str c, AVal.str u, AVal.str x, AVal.str y, AVal.str z, iqNO f, iqNO m]], AObj.rows true 9 [[iqNO 1, AVal.str s, AVal.str c, AVal.str bqNO, AVal.str bqNO, AVal.str bqNO, AVal.str bqNO, iqNO 0, iqNO 0]], AObj.rows true 1 [[AVal.str s], [AVal.str c]]]) (((!(fun r => true && r) ((fun r => ByteArray.toList s == ByteArray.toList s && r) ((fun r => ByteArray.toList c == ByteArray.toList c && r) ((fun r => [] == ByteArray.toList u && r) ((fun r => [] == ByteArray.toList x && r) ((fun r => [] == ByteArray.toList y && r) ((fun r => [] == ByteArray.toList z && r) ((fun r => 0 == f && r) ((fun r => 0 == m && r) true))))))))) = false) :: (tr 6 ++ (((!l0) = false) :: (tr 4 ++ ((Owed.use (owed Tryd.prog 0) 34 [2] [AVal.slc false 2 1 0 2 (some 2)] [AObj.rows true 9 [[iqNO 1, AVal.str s, AVal.str c, AVal.str u, AVal.str x, AVal.str y, AVal.str z, iqNO f, iqNO m]], AObj.rows true 9 [[iqNO 1, AVal.str s, AVal.str c, AVal.str bqNO, AVal.str bqNO, AVal.str bqNO, AVal.str bqNO, iqNO 0, iqNO 0]], AObj.rows true 1 [[AVal.str s], [AVal.str c]]] [AVal.slc false 0 1 0 2 (some 2)] (hsc s c) (AVal.bool l0) (hsc s c)) :: (tr 17 ++ []))))))) by kernel_rfl) (allP_of ⟨h1, (trC 6 ⟨h2, (trC 4 ⟨⟨h3, rfl, rfl, rfl⟩, (trC 17 trivial)⟩)⟩)⟩)).move ([]) (by kernel_rfl) (by kernel_rfl) (by kernel_rfl)

def ck1_T (s : ByteArray) (c : ByteArray) (u : ByteArray) (x : ByteArray) (y : ByteArray) (z : ByteArray) (f : Int) (m : Int) (l0 : Bool) (l1 : Bool) (v : Bool) (Q : AVal → AState → Prop) : Prop := (FOk Tryd.prog 34 [AVal.slc false 0 1 0 2 (some 2)] [AObj.rows true 1 [[AVal.str s], [AVal.str c]]] (AVal.bool l0) [AObj.rows true 1 [[AVal.str s], [AVal.str c]]]) ∧ (((!l0) = true) → Q (AVal.int IntKind.i64 1) ([])) ∧ (((!l0) = false) → (((!(fun r => true && r) ((fun r => ByteArray.toList s == ByteArray.toList s && r) ((fun r => ByteArray.toList c == ByteArray.toList c && r) ((fun r => [] == ByteArray.toList u && r) ((fun r => [] == ByteArray.toList x && r) ((fun r => [] == ByteArray.toList y && r) ((fun r => [] == ByteArray.toList z && r) ((fun r => 0 == f && r) ((fun r => 0 == m && r) true))))))))) = true) → Q (AVal.int IntKind.i64 1) ([])) ∧ (((!(fun r => true && r) ((fun r => ByteArray.toList s == ByteArray.toList s && r) ((fun r => ByteArray.toList c == ByteArray.toList c && r) ((fun r => [] == ByteArray.toList u && r) ((fun r => [] == ByteArray.toList x && r) ((fun r => [] == ByteArray.toList y && r) ((fun r => [] == ByteArray.toList z && r) ((fun r => 0 == f && r) ((fun r => 0 == m && r) true))))))))) = false) → Q (AVal.int IntKind.i64 0) ([])))
theorem ck1_wp (s : ByteArray) (c : ByteArray) (u : ByteArray) (x : ByteArray) (y : ByteArray) (z : ByteArray) (f : Int) (m : Int) (l0 : Bool) (l1 : Bool) (v : Bool) {Q : AVal → AState → Prop} (h : ck1_T s c u x y z f m l0 l1 v Q) : ∃ r σ', FOk Tryd.prog 21 ([opv 1 s c u x y z f m]) ([]) r σ' ∧ Q r σ' :=
  brE (fun (c0 : (!l0) = true) => ⟨_, _, ck1_1 s c u x y z f m l0 l1 v (c0) (h.1), (h.2.1 c0)⟩) (fun (c0 : (!l0) = false) => brE (fun (c1 : (!(fun r => true && r) ((fun r => ByteArray.toList s == ByteArray.toList s && r) ((fun r => ByteArray.toList c == ByteArray.toList c && r) ((fun r => [] == ByteArray.toList u && r) ((fun r => [] == ByteArray.toList x && r) ((fun r => [] == ByteArray.toList y && r) ((fun r => [] == ByteArray.toList z && r) ((fun r => 0 == f && r) ((fun r => 0 == m && r) true))))))))) = true) => ⟨_, _, ck1_2 s c u x y z f m l0 l1 v (c1) (c0) (h.1), ((h.2.2 c0).1 c1)⟩) (fun (c1 : (!(fun r => true && r) ((fun r => ByteArray.toList s == ByteArray.toList s && r) ((fun r => ByteArray.toList c == ByteArray.toList c && r) ((fun r => [] == ByteArray.toList u && r) ((fun r => [] == ByteArray.toList x && r) ((fun r => [] == ByteArray.toList y && r) ((fun r => [] == ByteArray.toList z && r) ((fun r => 0 == f && r) ((fun r => 0 == m && r) true))))))))) = false) => ⟨_, _, ck1_3 s c u x y z f m l0 l1 v (c1) (c0) (h.1), ((h.2.2 c0).2 c1)⟩))


theorem ck2_1 (s : ByteArray) (c : ByteArray) (u : ByteArray) (x : ByteArray) (y : ByteArray) (z : ByteArray) (f : Int) (m : Int) (l0 : Bool) (l1 : Bool) (v : Bool)
    (h1 : (!l1) = true)
    (h2 : FOk Tryd.prog 34 [AVal.slc false 0 1 0 1 (some 1)] [AObj.rows true 1 [[AVal.str u]]] (AVal.bool l1) [AObj.rows true 1 [[AVal.str u]]])
    (h3 : l0 = true)
    (h4 : FOk Tryd.prog 34 [AVal.slc false 0 1 0 2 (some 2)] (hsc s c) (AVal.bool l0) (hsc s c)) :
    FOk Tryd.prog 21 ([opv 2 s c u x y z f m]) ([]) (iqNO 1) ([]) :=
  (evalF_ok followed Tryd.func21 (by kernel_rfl) (show evalF Tryd.prog Tryd.f21 ([opv 2 s c u x y z f m]) ([]) ([Dec.use [2] [AVal.slc false 0 1 0 2 (some 2)] (hsc s c) (AVal.bool l0) (hsc s c), Dec.br false, Dec.br true, Dec.br true, Dec.use [3] [AVal.slc false 0 1 0 1 (some 1)] [AObj.rows true 1 [[AVal.str u]]] (AVal.bool l1) [AObj.rows true 1 [[AVal.str u]]], Dec.br true]) = .ok (FRes.mk (iqNO 1) ([AObj.rows true 9 [[iqNO 2, AVal.str s, AVal.str c, AVal.str u, AVal.str x, AVal.str y, AVal.str z, iqNO f, iqNO m]], AObj.rows true 9 [[iqNO 2, AVal.str s, AVal.str c, AVal.str u, AVal.str bqNO, AVal.str bqNO, AVal.str bqNO, iqNO 0, iqNO 0]], AObj.rows true 1 [[AVal.str s], [AVal.str c]], AObj.rows true 1 [[AVal.str u]]]) (((!l1) = true) :: (tr 15 ++ ((Owed.use (owed Tryd.prog 0) 34 [3] [AVal.slc false 3 1 0 1 (some 1)] [AObj.rows true 9 [[iqNO 2, AVal.str s, AVal.str c, AVal.str u, AVal.str x, AVal.str y, AVal.str z, iqNO f, iqNO m]], AObj.rows true 9 [[iqNO 2, AVal.str s, AVal.str c, AVal.str bqNO, AVal.str bqNO, AVal.str bqNO, AVal.str bqNO, iqNO 0, iqNO 0]], AObj.rows true 1 [[AVal.str s], [AVal.str c]], AObj.rows true 1 [[AVal.str u]]] [AVal.slc false 0 1 0 1 (some 1)] [AObj.rows true 1 [[AVal.str u]]] (AVal.bool l1) [AObj.rows true 1 [[AVal.str u]]]) :: (tr 11 ++ ((l0 = true) :: (tr 13 ++ ((false = false) :: (tr 3 ++ ((Owed.use (owed Tryd.prog 0) 34 [2] [AVal.slc false 2 1 0 2 (some 2)] [AObj.rows true 9 [[iqNO 2, AVal.str s, AVal.str c, AVal.str u, AVal.str x, AVal.str y, AVal.str z, iqNO f, iqNO m]], AObj.rows true 9 [[iqNO 2, AVal.str s, AVal.str c, AVal.str bqNO, AVal.str bqNO, AVal.str bqNO, AVal.str bqNO, iqNO 0, iqNO 0]], AObj.rows true 1 [[AVal.str s], [AVal.str c]]] [AVal.slc false 0 1 0 2 (some 2)] (hsc s c) (AVal.bool l0) (hsc s c)) :: (tr 17 ++ []))))))))))) by kernel_rfl) (allP_of ⟨h1, (trC 15 ⟨⟨h2, rfl, rfl, rfl⟩, (trC 11 ⟨h3, (trC 13 ⟨rfl, (trC 3 ⟨⟨h4, rfl, rfl, rfl⟩, (trC 17 trivial)⟩)⟩)⟩)⟩)⟩)).move ([]) (by kernel_rfl) (by kernel_rfl) (by kernel_rfl)

theorem ck2_2 (s : ByteArray) (c : ByteArray) (u : ByteArray) (x : ByteArray) (y : ByteArray) (z : ByteArray) (f : Int) (m : Int) (l0 : Bool) (l1 : Bool) (v : Bool)
    (h1 : (!(fun r => true && r) ((fun r => ByteArray.toList s == ByteArray.toList s && r) ((fun r => ByteArray.toList c == ByteArray.toList c && r) ((fun r => ByteArray.toList u == ByteArray.toList u && r) ((fun r => [] == ByteArray.toList x && r) ((fun r => [] == ByteArray.toList y && r) ((fun r => [] == ByteArray.toList z && r) ((fun r => 0 == f && r) ((fun r => 0 == m && r) true))))))))) = true)
    (h2 : (!l1) = false)
    (h3 : FOk Tryd.prog 34 [AVal.slc false 0 1 0 1 (some 1)] [AObj.rows true 1 [[AVal.str u]]] (AVal.bool l1) [AObj.rows true 1 [[AVal.str u]]])
    (h4 : l0 = true)
    (h5 : FOk Tryd.prog 34 [AVal.slc false 0 1 0 2 (some 2)] (hsc s c) (AVal.bool l0) (hsc s c)) :
    FOk Tryd.prog 21 ([opv 2 s c u x y z f m]) ([]) (iqNO 1) ([]) :=
  (evalF_ok followed Tryd.func21 (by kernel_rfl) (show evalF Tryd.prog Tryd.f21 ([opv 2 s c u x y z f m]) ([]) ([Dec.use [2] [AVal.slc false 0 1 0 2 (some 2)] (hsc s c) (AVal.bool l0) (hsc s c), Dec.br false, Dec.br true, Dec.br true, Dec.use [3] [AVal.slc false 0 1 0 1 (some 1)] [AObj.rows true 1 [[AVal.str u]]] (AVal.bool l1) [AObj.rows true 1 [[AVal.str u]]], Dec.br false, Dec.br true]) = .ok (FRes.mk (iqNO 1) ([AObj.rows true 9 [[iqNO 2, AVal.str s, AVal.str c, AVal.str u, AVal.str x, AVal.str y, AVal.str z, iqNO f, iqNO m]], AObj.rows true 9 [[iqNO 2, AVal.str s, AVal.str c, AVal.str u, AVal.str bqNO, AVal.str bqNO, AVal.str bqNO, iqNO 0, iqNO 0]], AObj.rows true 1 [[AVal.str s], [AVal.str c]], AObj.rows true 1 [[AVal.str u]]]) (((!(fun r => true && r) ((fun r => ByteArray.toList s == ByteArray.toList s && r) ((fun r => ByteArray.toList c == ByteArray.toList c && r) ((fun r => ByteArray.toList u == ByteArray.toList u && r) ((fun r => [] == ByteArray.toList x && r) ((fun r => [] == ByteArray.toList y && r) ((fun r => [] == ByteArray.toList z && r) ((fun r => 0 == f && r) ((fun r => 0 == m && r) true))))))))) = true) :: (tr 6 ++ (((!l1) = false) :: (tr 15 ++ ((Owed.use (owed Tryd.prog 0) 34 [3] [AVal.slc false 3 1 0 1 (some 1)] [AObj.rows true 9 [[iqNO 2, AVal.str s, AVal.str c, AVal.str u, AVal.str x, AVal.str y, AVal.str z, iqNO f, iqNO m]], AObj.rows true 9 [[iqNO 2, AVal.str s, AVal.str c, AVal.str bqNO, AVal.str bqNO, AVal.str bqNO, AVal.str bqNO, iqNO 0, iqNO 0]], AObj.rows true 1 [[AVal.str s], [AVal.str c]], AObj.rows true 1 [[AVal.str u]]] [AVal.slc false 0 1 0 1 (some 1)] [AObj.rows true 1 [[AVal.str u]]] (AVal.bool l1) [AObj.rows true 1 [[AVal.str u]]]) :: (tr 11 ++ ((l0 = true) :: (tr 13 ++ ((false = false) :: (tr 3 ++ ((Owed.use (owed Tryd.prog 0) 34 [2] [AVal.slc false 2 1 0 2 (some 2)] [AObj.rows true 9 [[iqNO 2, AVal.str s, AVal.str c, AVal.str u, AVal.str x, AVal.str y, AVal.str z, iqNO f, iqNO m]], AObj.rows true 9 [[iqNO 2, AVal.str s, AVal.str c, AVal.str bqNO, AVal.str bqNO, AVal.str bqNO, AVal.str bqNO, iqNO 0, iqNO 0]], AObj.rows true 1 [[AVal.str s], [AVal.str c]]] [AVal.slc false 0 1 0 2 (some 2)] (hsc s c) (AVal.bool l0) (hsc s c)) :: (tr 17 ++ []))))))))))))) by kernel_rfl) (allP_of ⟨h1, (trC 6 ⟨h2, (trC 15 ⟨⟨h3, rfl, rfl, rfl⟩, (trC 11 ⟨h4, (trC 13 ⟨rfl, (trC 3 ⟨⟨h5, rfl, rfl, rfl⟩, (trC 17 trivial)⟩)⟩)⟩)⟩)⟩)⟩)).move ([]) (by kernel_rfl) (by kernel_rfl) (by kernel_rfl)

theorem ck2_3 (s : ByteArray) (c : ByteArray) (u : ByteArray) (x : ByteArray) (y : ByteArray) (z : ByteArray) (f : Int) (m : Int) (l0 : Bool) (l1 : Bool) (v : Bool)
    (h1 : (!(fun r => true && r) ((fun r => ByteArray.toList s == ByteArray.toList s && r) ((fun r => ByteArray.toList c == ByteArray.toList c && r) ((fun r => ByteArray.toList u == ByteArray.toList u && r) ((fun r => [] == ByteArray.toList x && r) ((fun r => [] == ByteArray.toList y && r) ((fun r => [] == ByteArray.toList z && r) ((fun r => 0 == f && r) ((fun r => 0 == m && r) true))))))))) = false)
    (h2 : (!l1) = false)
    (h3 : FOk Tryd.prog 34 [AVal.slc false 0 1 0 1 (some 1)] [AObj.rows true 1 [[AVal.str u]]] (AVal.bool l1) [AObj.rows true 1 [[AVal.str u]]])
    (h4 : l0 = true)
    (h5 : FOk Tryd.prog 34 [AVal.slc false 0 1 0 2 (some 2)] (hsc s c) (AVal.bool l0) (hsc s c)) :
    FOk Tryd.prog 21 ([opv 2 s c u x y z f m]) ([]) (iqNO 0) ([]) :=
  (evalF_ok followed Tryd.func21 (by kernel_rfl) (show evalF Tryd.prog Tryd.f21 ([opv 2 s c u x y z f m]) ([]) ([Dec.use [2] [AVal.slc false 0 1 0 2 (some 2)] (hsc s c) (AVal.bool l0) (hsc s c), Dec.br false, Dec.br true, Dec.br true, Dec.use [3] [AVal.slc false 0 1 0 1 (some 1)] [AObj.rows true 1 [[AVal.str u]]] (AVal.bool l1) [AObj.rows true 1 [[AVal.str u]]], Dec.br false, Dec.br false]) = .ok (FRes.mk (iqNO 0) ([AObj.rows true 9 [[iqNO 2, AVal.str s, AVal.str c, AVal.str u, AVal.str x, AVal.str y, AVal.str z, iqNO f, iqNO m]], AObj.rows true 9 [[iqNO 2, AVal.str s, AVal.str c, AVal.str u, AVal.str bqNO, AVal.str bqNO, AVal.str bqNO, iqNO 0, iqNO 0]], AObj.rows true 1 [[AVal.str s], [AVal.str c]], AObj.rows true 1 [[AVal.str u]]]) (((!(fun r => true && r) ((fun r => ByteArray.toList s == ByteArray.toList s && r) ((fun r => ByteArray.toList c == ByteArray.toList c && r) ((fun r => ByteArray.toList u == ByteArray.toList u && r) ((fun r => [] == ByteArray.toList x && r) ((fun r => [] == ByteArray.toList y && r) ((fun r => [] == ByteArray.toList z && r) ((fun r => 0 == f && r) ((fun r => 0 == m && r) true))))))))) = false) :: (tr 6 ++ (((!l1) = false) :: (tr 15 ++ ((Owed.use (owed Tryd.prog 0) 34 [3] [AVal.slc false 3 1 0 1 (some 1)] [AObj.rows true 9 [[iqNO 2, AVal.str s, AVal.str c, AVal.str u, AVal.str x, AVal.str y, AVal.str z, iqNO f, iqNO m]], AObj.rows true 9 [[iqNO 2, AVal.str s, AVal.str c, AVal.str bqNO, AVal.str bqNO, AVal.str bqNO, AVal.str bqNO, iqNO 0, iqNO 0]], AObj.rows true 1 [[AVal.str s], [AVal.str c]], AObj.rows true 1 [[AVal.str u]]] [AVal.slc false 0 1 0 1 (some 1)] [AObj.rows true 1 [[AVal.str u]]] (AVal.bool l1) [AObj.rows true 1 [[AVal.str u]]]) :: (tr 11 ++ ((l0 = true) :: (tr 13 ++ ((false = false) :: (tr 3 ++ ((Owed.use (owed Tryd.prog 0) 34 [2] [AVal.slc false 2 1 0 2 (some 2)] [AObj.rows true 9 [[iqNO 2, AVal.str s, AVal.str c, AVal.str u, AVal.str x, AVal.str y, AVal.str z, iqNO f, iqNO m]], AObj.rows true 9 [[iqNO 2, AVal.str s, AVal.str c, AVal.str bqNO, AVal.str bqNO, AVal.str bqNO, AVal.str bqNO, iqNO 0, iqNO 0]], AObj.rows true 1 [[AVal.str s], [AVal.str c]]] [AVal.slc false 0 1 0 2 (some 2)] (hsc s c) (AVal.bool l0) (hsc s c)) :: (tr 17 ++ []))))))))))))) by kernel_rfl) (allP_of ⟨h1, (trC 6 ⟨h2, (trC 15 ⟨⟨h3, rfl, rfl, rfl⟩, (trC 11 ⟨h4, (trC 13 ⟨rfl, (trC 3 ⟨⟨h5, rfl, rfl, rfl⟩, (trC 17 trivial)⟩)⟩)⟩)⟩)⟩)⟩)).move ([]) (by kernel_rfl) (by kernel_rfl) (by kernel_rfl)

theorem ck2_4 (s : ByteArray) (c : ByteArray) (u : ByteArray) (x : ByteArray) (y : ByteArray) (z : ByteArray) (f : Int) (m : Int) (l0 : Bool) (l1 : Bool) (v : Bool)
    (h1 : l0 = false)
    (h2 : FOk Tryd.prog 34 [AVal.slc false 0 1 0 2 (some 2)] (hsc s c) (AVal.bool l0) (hsc s c)) :
    FOk Tryd.prog 21 ([opv 2 s c u x y z f m]) ([]) (iqNO 1) ([]) :=
  (evalF_ok followed Tryd.func21 (by kernel_rfl) (show evalF Tryd.prog Tryd.f21 ([opv 2 s c u x y z f m]) ([]) ([Dec.use [2] [AVal.slc false 0 1 0 2 (some 2)] (hsc s c) (AVal.bool l0) (hsc s c), Dec.br false, Dec.br true, Dec.br false]) = .ok (FRes.mk (iqNO 1) ([AObj.rows true 9 [[iqNO 2, AVal.str s, AVal.str c, AVal.str u, AVal.str x, AVal.str y, AVal.str z, iqNO f, iqNO m]], AObj.rows true 9 [[iqNO 2, AVal.str s, AVal.str c, AVal.str u, AVal.str bqNO, AVal.str bqNO, AVal.str bqNO, iqNO 0, iqNO 0]], AObj.rows true 1 [[AVal.str s], [AVal.str c]]]) (tr 19 ++ ((l0 = false) :: (tr 13 ++ ((false = false) :: (tr 3 ++ ((Owed.use (owed Tryd.prog 0) 34 [2] [AVal.slc false 2 1 0 2 (some 2)] [AObj.rows true 9 [[iqNO 2, AVal.str s, AVal.str c, AVal.str u, AVal.str x, AVal.str y, AVal.str z, iqNO f, iqNO m]], AObj.rows true 9 [[iqNO 2, AVal.str s, AVal.str c, AVal.str bqNO, AVal.str bqNO, AVal.str bqNO, AVal.str bqNO, iqNO 0, iqNO 0]], AObj.rows true 1 [[AVal.str s], [AVal.str c]]] [AVal.slc false 0 1 0 2 (some 2)] (hsc s c) (AVal.bool l0) (hsc s c)) :: (tr 17 ++ [])))))))) by kernel_rfl) (allP_of (trC 19 ⟨h1, (trC 13 ⟨rfl, (trC 3 ⟨⟨h2, rfl, rfl, rfl⟩, (trC 17 trivial)⟩)⟩)⟩))).move ([]) (by kernel_rfl) (by kernel_rfl) (by kernel_rfl)

def ck2_T (s : ByteArray) (c : ByteArray) (u : ByteArray) (x : ByteArray) (y : ByteArray) (z : ByteArray) (f : Int) (m : Int) (l0 : Bool) (l1 : Bool) (v : Bool) (Q : AVal → AState → Prop) : Prop := (FOk Tryd.prog 34 [AVal.slc false 0 1 0 2 (some 2)] [AObj.rows true 1 [[AVal.str s], [AVal.str c]]] (AVal.bool l0) [AObj.rows true 1 [[AVal.str s], [AVal.str c]]]) ∧ ((l0 = true) → (FOk Tryd.prog 34 [AVal.slc false 0 1 0 1 (some 1)] [AObj.rows true 1 [[AVal.str u]]] (AVal.bool l1) [AObj.rows true 1 [[AVal.str u]]]) ∧ (((!l1) = true) → Q (AVal.int IntKind.i64 1) ([])) ∧ (((!l1) = false) → (((!(fun r => true && r) ((fun r => ByteArray.toList s == ByteArray.toList s && r) ((fun r => ByteArray.toList c == ByteArray.toList c && r) ((fun r => ByteArray.toList u == ByteArray.toList u && r) ((fun r => [] == ByteArray.toList x && r) ((fun r => [] == ByteArray.toList y && r) ((fun r => [] == ByteArray.toList z && r) ((fun r => 0 == f && r) ((fun r => 0 == m && r) true))))))))) = true) → Q (AVal.int IntKind.i64 1) ([])) ∧ (((!(fun r => true && r) ((fun r => ByteArray.toList s == ByteArray.toList s && r) ((fun r => ByteArray.toList c == ByteArray.toList c && r) ((fun r => ByteArray.toList u == ByteArray.toList u && r) ((fun r => [] == ByteArray.toList x && r) ((fun r => [] == ByteArray.toList y && r) ((fun r => [] == ByteArray.toList z && r) ((fun r => 0 == f && r) ((fun r => 0 == m && r) true))))))))) = false) → Q (AVal.int IntKind.i64 0) ([])))) ∧ ((l0 = false) → Q (AVal.int IntKind.i64 1) ([]))
theorem ck2_wp (s : ByteArray) (c : ByteArray) (u : ByteArray) (x : ByteArray) (y : ByteArray) (z : ByteArray) (f : Int) (m : Int) (l0 : Bool) (l1 : Bool) (v : Bool) {Q : AVal → AState → Prop} (h : ck2_T s c u x y z f m l0 l1 v Q) : ∃ r σ', FOk Tryd.prog 21 ([opv 2 s c u x y z f m]) ([]) r σ' ∧ Q r σ' :=
  brE (fun (c0 : l0 = true) => brE (fun (c1 : (!l1) = true) => ⟨_, _, ck2_1 s c u x y z f m l0 l1 v (c1) ((h.2.1 c0).1) (c0) (h.1), ((h.2.1 c0).2.1 c1)⟩) (fun (c1 : (!l1) = false) => brE (fun (c2 : (!(fun r => true && r) ((fun r => ByteArray.toList s == ByteArray.toList s && r) ((fun r => ByteArray.toList c == ByteArray.toList c && r) ((fun r => ByteArray.toList u == ByteArray.toList u && r) ((fun r => [] == ByteArray.toList x && r) ((fun r => [] == ByteArray.toList y && r) ((fun r => [] == ByteArray.toList z && r) ((fun r => 0 == f && r) ((fun r => 0 == m && r) true))))))))) = true) => ⟨_, _, ck2_2 s c u x y z f m l0 l1 v (c2) (c1) ((h.2.1 c0).1) (c0) (h.1), (((h.2.1 c0).2.2 c1).1 c2)⟩) (fun (c2 : (!(fun r => true && r) ((fun r => ByteArray.toList s == ByteArray.toList s && r) ((fun r => ByteArray.toList c == ByteArray.toList c && r) ((fun r => ByteArray.toList u == ByteArray.toList u && r) ((fun r => [] == ByteArray.toList x && r) ((fun r => [] == ByteArray.toList y && r) ((fun r => [] == ByteArray.toList z && r) ((fun r => 0 == f && r) ((fun r => 0 == m && r) true))))))))) = false) => ⟨_, _, ck2_3 s c u x y z f m l0 l1 v (c2) (c1) ((h.2.1 c0).1) (c0) (h.1), (((h.2.1 c0).2.2 c1).2 c2)⟩))) (fun (c0 : l0 = false) => ⟨_, _, ck2_4 s c u x y z f m l0 l1 v (c0) (h.1), (h.2.2 c0)⟩)


theorem ck3_1 (s : ByteArray) (c : ByteArray) (u : ByteArray) (x : ByteArray) (y : ByteArray) (z : ByteArray) (f : Int) (m : Int) (l0 : Bool) (l1 : Bool) (v : Bool)
    (h1 : (!v) = true)
    (h2 : FOk Tryd.prog 35 [AVal.str x] [] (AVal.bool v) [])
    (h3 : decide ((↑(ByteArray.size x) : Int) ≤ 1024) = true)
    (h4 : l1 = true)
    (h5 : FOk Tryd.prog 34 [AVal.slc false 0 1 0 1 (some 1)] [AObj.rows true 1 [[AVal.str u]]] (AVal.bool l1) [AObj.rows true 1 [[AVal.str u]]])
    (h6 : l0 = true)
    (h7 : FOk Tryd.prog 34 [AVal.slc false 0 1 0 2 (some 2)] (hsc s c) (AVal.bool l0) (hsc s c)) :
    FOk Tryd.prog 21 ([opv 3 s c u x y z f m]) ([]) (iqNO 1) ([]) :=
  (evalF_ok followed Tryd.func21 (by kernel_rfl) (show evalF Tryd.prog Tryd.f21 ([opv 3 s c u x y z f m]) ([]) ([Dec.use [2] [AVal.slc false 0 1 0 2 (some 2)] (hsc s c) (AVal.bool l0) (hsc s c), Dec.br false, Dec.br false, Dec.br true, Dec.br true, Dec.use [3] [AVal.slc false 0 1 0 1 (some 1)] [AObj.rows true 1 [[AVal.str u]]] (AVal.bool l1) [AObj.rows true 1 [[AVal.str u]]], Dec.br true, Dec.br true, Dec.use [] [AVal.str x] [] (AVal.bool v) [], Dec.br true]) = .ok (FRes.mk (iqNO 1) ([AObj.rows true 9 [[iqNO 3, AVal.str s, AVal.str c, AVal.str u, AVal.str x, AVal.str y, AVal.str z, iqNO f, iqNO m]], AObj.rows true 9 [[iqNO 3, AVal.str s, AVal.str c, AVal.str u, AVal.str x, AVal.str bqNO, AVal.str bqNO, iqNO 0, iqNO 0]], AObj.rows true 1 [[AVal.str s], [AVal.str c]], AObj.rows true 1 [[AVal.str u]]]) (((!v) = true) :: (tr 22 ++ ((Owed.use (owed Tryd.prog 0) 35 [] [AVal.str x] [AObj.rows true 9 [[iqNO 3, AVal.str s, AVal.str c, AVal.str u, AVal.str x, AVal.str y, AVal.str z, iqNO f, iqNO m]], AObj.rows true 9 [[iqNO 3, AVal.str s, AVal.str c, AVal.str bqNO, AVal.str bqNO, AVal.str bqNO, AVal.str bqNO, iqNO 0, iqNO 0]], AObj.rows true 1 [[AVal.str s], [AVal.str c]], AObj.rows true 1 [[AVal.str u]]] [AVal.str x] [] (AVal.bool v) []) :: (tr 11 ++ ((decide ((↑(ByteArray.size x) : Int) ≤ 1024) = true) :: (tr 19 ++ ((l1 = true) :: (tr 10 ++ ((Owed.use (owed Tryd.prog 0) 34 [3] [AVal.slc false 3 1 0 1 (some 1)] [AObj.rows true 9 [[iqNO 3, AVal.str s, AVal.str c, AVal.str u, AVal.str x, AVal.str y, AVal.str z, iqNO f, iqNO m]], AObj.rows true 9 [[iqNO 3, AVal.str s, AVal.str c, AVal.str bqNO, AVal.str bqNO, AVal.str bqNO, AVal.str bqNO, iqNO 0, iqNO 0]], AObj.rows true 1 [[AVal.str s], [AVal.str c]], AObj.rows true 1 [[AVal.str u]]] [AVal.slc false 0 1 0 1 (some 1)] [AObj.rows true 1 [[AVal.str u]]] (AVal.bool l1) [AObj.rows true 1 [[AVal.str u]]]) :: (tr 13 ++ ((l0 = true) :: (tr 22 ++ ((false = false) :: ((false = false) :: (tr 3 ++ ((Owed.use (owed Tryd.prog 0) 34 [2] [AVal.slc false 2 1 0 2 (some 2)] [AObj.rows true 9 [[iqNO 3, AVal.str s, AVal.str c, AVal.str u, AVal.str x, AVal.str y, AVal.str z, iqNO f, iqNO m]], AObj.rows true 9 [[iqNO 3, AVal.str s, AVal.str c, AVal.str bqNO, AVal.str bqNO, AVal.str bqNO, AVal.str bqNO, iqNO 0, iqNO 0]], AObj.rows true 1 [[AVal.str s], [AVal.str c]]] [AVal.slc false 0 1 0 2 (some 2)] (hsc s c) (AVal.bool l0) (hsc s c)) :: (tr 17 ++ [])))))))))))))))))) by kernel_rfl) (allP_of ⟨h1, (trC 22 ⟨⟨h2, rfl, rfl, rfl⟩, (trC 11 ⟨h3, (trC 19 ⟨h4, (trC 10 ⟨⟨h5, rfl, rfl, rfl⟩, (trC 13 ⟨h6, (trC 22 ⟨rfl, ⟨rfl, (trC 3 ⟨⟨h7, rfl, rfl, rfl⟩, (trC 17 trivial)⟩)⟩⟩)⟩)⟩)⟩)⟩)⟩)⟩)).move ([]) (by kernel_rfl) (by kernel_rfl) (by kernel_rfl)

theorem ck3_2 (s : ByteArray) (c : ByteArray) (u : ByteArray) (x : ByteArray) (y : ByteArray) (z : ByteArray) (f : Int) (m : Int) (l0 : Bool) (l1 : Bool) (v : Bool)
    (h1 : (!(fun r => true && r) ((fun r => ByteArray.toList s == ByteArray.toList s && r) ((fun r => ByteArray.toList c == ByteArray.toList c && r) ((fun r => ByteArray.toList u == ByteArray.toList u && r) ((fun r => ByteArray.toList x == ByteArray.toList x && r) ((fun r => [] == ByteArray.toList y && r) ((fun r => [] == ByteArray.toList z && r) ((fun r => 0 == f && r) ((fun r => 0 == m && r) true))))))))) = true)
    (h2 : (!v) = false)
    (h3 : FOk Tryd.prog 35 [AVal.str x] [] (AVal.bool v) [])
    (h4 : decide ((↑(ByteArray.size x) : Int) ≤ 1024) = true)
    (h5 : l1 = true)
    (h6 : FOk Tryd.prog 34 [AVal.slc false 0 1 0 1 (some 1)] [AObj.rows true 1 [[AVal.str u]]] (AVal.bool l1) [AObj.rows true 1 [[AVal.str u]]])
    (h7 : l0 = true)
    (h8 : FOk Tryd.prog 34 [AVal.slc false 0 1 0 2 (some 2)] (hsc s c) (AVal.bool l0) (hsc s c)) :
    FOk Tryd.prog 21 ([opv 3 s c u x y z f m]) ([]) (iqNO 1) ([]) :=
  (evalF_ok followed Tryd.func21 (by kernel_rfl) (show evalF Tryd.prog Tryd.f21 ([opv 3 s c u x y z f m]) ([]) ([Dec.use [2] [AVal.slc false 0 1 0 2 (some 2)] (hsc s c) (AVal.bool l0) (hsc s c), Dec.br false, Dec.br false, Dec.br true, Dec.br true, Dec.use [3] [AVal.slc false 0 1 0 1 (some 1)] [AObj.rows true 1 [[AVal.str u]]] (AVal.bool l1) [AObj.rows true 1 [[AVal.str u]]], Dec.br true, Dec.br true, Dec.use [] [AVal.str x] [] (AVal.bool v) [], Dec.br false, Dec.br true]) = .ok (FRes.mk (iqNO 1) ([AObj.rows true 9 [[iqNO 3, AVal.str s, AVal.str c, AVal.str u, AVal.str x, AVal.str y, AVal.str z, iqNO f, iqNO m]], AObj.rows true 9 [[iqNO 3, AVal.str s, AVal.str c, AVal.str u, AVal.str x, AVal.str bqNO, AVal.str bqNO, iqNO 0, iqNO 0]], AObj.rows true 1 [[AVal.str s], [AVal.str c]], AObj.rows true 1 [[AVal.str u]]]) (((!(fun r => true && r) ((fun r => ByteArray.toList s == ByteArray.toList s && r) ((fun r => ByteArray.toList c == ByteArray.toList c && r) ((fun r => ByteArray.toList u == ByteArray.toList u && r) ((fun r => ByteArray.toList x == ByteArray.toList x && r) ((fun r => [] == ByteArray.toList y && r) ((fun r => [] == ByteArray.toList z && r) ((fun r => 0 == f && r) ((fun r => 0 == m && r) true))))))))) = true) :: (tr 6 ++ (((!v) = false) :: (tr 22 ++ ((Owed.use (owed Tryd.prog 0) 35 [] [AVal.str x] [AObj.rows true 9 [[iqNO 3, AVal.str s, AVal.str c, AVal.str u, AVal.str x, AVal.str y, AVal.str z, iqNO f, iqNO m]], AObj.rows true 9 [[iqNO 3, AVal.str s, AVal.str c, AVal.str bqNO, AVal.str bqNO, AVal.str bqNO, AVal.str bqNO, iqNO 0, iqNO 0]], AObj.rows true 1 [[AVal.str s], [AVal.str c]], AObj.rows true 1 [[AVal.str u]]] [AVal.str x] [] (AVal.bool v) []) :: (tr 11 ++ ((decide ((↑(ByteArray.size x) : Int) ≤ 1024) = true) :: (tr 19 ++ ((l1 = true) :: (tr 10 ++ ((Owed.use (owed Tryd.prog 0) 34 [3] [AVal.slc false 3 1 0 1 (some 1)] [AObj.rows true 9 [[iqNO 3, AVal.str s, AVal.str c, AVal.str u, AVal.str x, AVal.str y, AVal.str z, iqNO f, iqNO m]], AObj.rows true 9 [[iqNO 3, AVal.str s, AVal.str c, AVal.str bqNO, AVal.str bqNO, AVal.str bqNO, AVal.str bqNO, iqNO 0, iqNO 0]], AObj.rows true 1 [[AVal.str s], [AVal.str c]], AObj.rows true 1 [[AVal.str u]]] [AVal.slc false 0 1 0 1 (some 1)] [AObj.rows true 1 [[AVal.str u]]] (AVal.bool l1) [AObj.rows true 1 [[AVal.str u]]]) :: (tr 13 ++ ((l0 = true) :: (tr 22 ++ ((false = false) :: ((false = false) :: (tr 3 ++ ((Owed.use (owed Tryd.prog 0) 34 [2] [AVal.slc false 2 1 0 2 (some 2)] [AObj.rows true 9 [[iqNO 3, AVal.str s, AVal.str c, AVal.str u, AVal.str x, AVal.str y, AVal.str z, iqNO f, iqNO m]], AObj.rows true 9 [[iqNO 3, AVal.str s, AVal.str c, AVal.str bqNO, AVal.str bqNO, AVal.str bqNO, AVal.str bqNO, iqNO 0, iqNO 0]], AObj.rows true 1 [[AVal.str s], [AVal.str c]]] [AVal.slc false 0 1 0 2 (some 2)] (hsc s c) (AVal.bool l0) (hsc s c)) :: (tr 17 ++ [])))))))))))))))))))) by kernel_rfl) (allP_of ⟨h1, (trC 6 ⟨h2, (trC 22 ⟨⟨h3, rfl, rfl, rfl⟩, (trC 11 ⟨h4, (trC 19 ⟨h5, (trC 10 ⟨⟨h6, rfl, rfl, rfl⟩, (trC 13 ⟨h7, (trC 22 ⟨rfl, ⟨rfl, (trC 3 ⟨⟨h8, rfl, rfl, rfl⟩, (trC 17 trivial)⟩)⟩⟩)⟩)⟩)⟩)⟩)⟩)⟩)⟩)).move ([]) (by kernel_rfl) (by kernel_rfl) (by kernel_rfl)

theorem ck3_3 (s : ByteArray) (c : ByteArray) (u : ByteArray) (x : ByteArray) (y : ByteArray) (z : ByteArray) (f : Int) (m : Int) (l0 : Bool) (l1 : Bool) (v : Bool)
    (h1 : (!(fun r => true && r) ((fun r => ByteArray.toList s == ByteArray.toList s && r) ((fun r => ByteArray.toList c == ByteArray.toList c && r) ((fun r => ByteArray.toList u == ByteArray.toList u && r) ((fun r => ByteArray.toList x == ByteArray.toList x && r) ((fun r => [] == ByteArray.toList y && r) ((fun r => [] == ByteArray.toList z && r) ((fun r => 0 == f && r) ((fun r => 0 == m && r) true))))))))) = false)
    (h2 : (!v) = false)
    (h3 : FOk Tryd.prog 35 [AVal.str x] [] (AVal.bool v) [])
    (h4 : decide ((↑(ByteArray.size x) : Int) ≤ 1024) = true)
    (h5 : l1 = true)
    (h6 : FOk Tryd.prog 34 [AVal.slc false 0 1 0 1 (some 1)] [AObj.rows true 1 [[AVal.str u]]] (AVal.bool l1) [AObj.rows true 1 [[AVal.str u]]])
    (h7 : l0 = true)
    (h8 : FOk Tryd.prog 34 [AVal.slc false 0 1 0 2 (some 2)] (hsc s c) (AVal.bool l0) (hsc s c)) :
    FOk Tryd.prog 21 ([opv 3 s c u x y z f m]) ([]) (iqNO 0) ([]) :=
  (evalF_ok followed Tryd.func21 (by kernel_rfl) (show evalF Tryd.prog Tryd.f21 ([opv 3 s c u x y z f m]) ([]) ([Dec.use [2] [AVal.slc false 0 1 0 2 (some 2)] (hsc s c) (AVal.bool l0) (hsc s c), Dec.br false, Dec.br false, Dec.br true, Dec.br true, Dec.use [3] [AVal.slc false 0 1 0 1 (some 1)] [AObj.rows true 1 [[AVal.str u]]] (AVal.bool l1) [AObj.rows true 1 [[AVal.str u]]], Dec.br true, Dec.br true, Dec.use [] [AVal.str x] [] (AVal.bool v) [], Dec.br false, Dec.br false]) = .ok (FRes.mk (iqNO 0) ([AObj.rows true 9 [[iqNO 3, AVal.str s, AVal.str c, AVal.str u, AVal.str x, AVal.str y, AVal.str z, iqNO f, iqNO m]], AObj.rows true 9 [[iqNO 3, AVal.str s, AVal.str c, AVal.str u, AVal.str x, AVal.str bqNO, AVal.str bqNO, iqNO 0, iqNO 0]], AObj.rows true 1 [[AVal.str s], [AVal.str c]], AObj.rows true 1 [[AVal.str u]]]) (((!(fun r => true && r) ((fun r => ByteArray.toList s == ByteArray.toList s && r) ((fun r => ByteArray.toList c == ByteArray.toList c && r) ((fun r => ByteArray.toList u == ByteArray.toList u && r) ((fun r => ByteArray.toList x == ByteArray.toList x && r) ((fun r => [] == ByteArray.toList y && r) ((fun r => [] == ByteArray.toList z && r) ((fun r => 0 == f && r) ((fun r => 0 == m && r) true))))))))) = false) :: (tr 6 ++ (((!v) = false) :: (tr 22 ++ ((Owed.use (owed Tryd.prog 0) 35 [] [AVal.str x] [AObj.rows true 9 [[iqNO 3, AVal.str s, AVal.str c, AVal.str u, AVal.str x, AVal.str y, AVal.str z, iqNO f, iqNO m]], AObj.rows true 9 [[iqNO 3, AVal.str s, AVal.str c, AVal.str bqNO, AVal.str bqNO, AVal.str bqNO, AVal.str bqNO, iqNO 0, iqNO 0]], AObj.rows true 1 [[AVal.str s], [AVal.str c]], AObj.rows true 1 [[AVal.str u]]] [AVal.str x] [] (AVal.bool v) []) :: (tr 11 ++ ((decide ((↑(ByteArray.size x) : Int) ≤ 1024) = true) :: (tr 19 ++ ((l1 = true) :: (tr 10 ++ ((Owed.use (owed Tryd.prog 0) 34 [3] [AVal.slc false 3 1 0 1 (some 1)] [AObj.rows true 9 [[iqNO 3, AVal.str s, AVal.str c, AVal.str u, AVal.str x, AVal.str y, AVal.str z, iqNO f, iqNO m]], AObj.rows true 9 [[iqNO 3, AVal.str s, AVal.str c, AVal.str bqNO, AVal.str bqNO, AVal.str bqNO, AVal.str bqNO, iqNO 0, iqNO 0]], AObj.rows true 1 [[AVal.str s], [AVal.str c]], AObj.rows true 1 [[AVal.str u]]] [AVal.slc false 0 1 0 1 (some 1)] [AObj.rows true 1 [[AVal.str u]]] (AVal.bool l1) [AObj.rows true 1 [[AVal.str u]]]) :: (tr 13 ++ ((l0 = true) :: (tr 22 ++ ((false = false) :: ((false = false) :: (tr 3 ++ ((Owed.use (owed Tryd.prog 0) 34 [2] [AVal.slc false 2 1 0 2 (some 2)] [AObj.rows true 9 [[iqNO 3, AVal.str s, AVal.str c, AVal.str u, AVal.str x, AVal.str y, AVal.str z, iqNO f, iqNO m]], AObj.rows true 9 [[iqNO 3, AVal.str s, AVal.str c, AVal.str bqNO, AVal.str bqNO, AVal.str bqNO, AVal.str bqNO, iqNO 0, iqNO 0]], AObj.rows true 1 [[AVal.str s], [AVal.str c]]] [AVal.slc false 0 1 0 2 (some 2)] (hsc s c) (AVal.bool l0) (hsc s c)) :: (tr 17 ++ [])))))))))))))))))))) by kernel_rfl) (allP_of ⟨h1, (trC 6 ⟨h2, (trC 22 ⟨⟨h3, rfl, rfl, rfl⟩, (trC 11 ⟨h4, (trC 19 ⟨h5, (trC 10 ⟨⟨h6, rfl, rfl, rfl⟩, (trC 13 ⟨h7, (trC 22 ⟨rfl, ⟨rfl, (trC 3 ⟨⟨h8, rfl, rfl, rfl⟩, (trC 17 trivial)⟩)⟩⟩)⟩)⟩)⟩)⟩)⟩)⟩)⟩)).move ([]) (by kernel_rfl) (by kernel_rfl) (by kernel_rfl)

theorem ck3_4 (s : ByteArray) (c : ByteArray) (u : ByteArray) (x : ByteArray) (y : ByteArray) (z : ByteArray) (f : Int) (m : Int) (l0 : Bool) (l1 : Bool) (v : Bool)
    (h1 : decide ((↑(ByteArray.size x) : Int) ≤ 1024) = false)
    (h2 : l1 = true)
    (h3 : FOk Tryd.prog 34 [AVal.slc false 0 1 0 1 (some 1)] [AObj.rows true 1 [[AVal.str u]]] (AVal.bool l1) [AObj.rows true 1 [[AVal.str u]]])
    (h4 : l0 = true)
    (h5 : FOk Tryd.prog 34 [AVal.slc false 0 1 0 2 (some 2)] (hsc s c) (AVal.bool l0) (hsc s c)) :
    FOk Tryd.prog 21 ([opv 3 s c u x y z f m]) ([]) (iqNO 1) ([]) :=
  (evalF_ok followed Tryd.func21 (by kernel_rfl) (show evalF Tryd.prog Tryd.f21 ([opv 3 s c u x y z f m]) ([]) ([Dec.use [2] [AVal.slc false 0 1 0 2 (some 2)] (hsc s c) (AVal.bool l0) (hsc s c), Dec.br false, Dec.br false, Dec.br true, Dec.br true, Dec.use [3] [AVal.slc false 0 1 0 1 (some 1)] [AObj.rows true 1 [[AVal.str u]]] (AVal.bool l1) [AObj.rows true 1 [[AVal.str u]]], Dec.br true, Dec.br false]) = .ok (FRes.mk (iqNO 1) ([AObj.rows true 9 [[iqNO 3, AVal.str s, AVal.str c, AVal.str u, AVal.str x, AVal.str y, AVal.str z, iqNO f, iqNO m]], AObj.rows true 9 [[iqNO 3, AVal.str s, AVal.str c, AVal.str u, AVal.str x, AVal.str bqNO, AVal.str bqNO, iqNO 0, iqNO 0]], AObj.rows true 1 [[AVal.str s], [AVal.str c]], AObj.rows true 1 [[AVal.str u]]]) (tr 26 ++ ((decide ((↑(ByteArray.size x) : Int) ≤ 1024) = false) :: (tr 19 ++ ((l1 = true) :: (tr 10 ++ ((Owed.use (owed Tryd.prog 0) 34 [3] [AVal.slc false 3 1 0 1 (some 1)] [AObj.rows true 9 [[iqNO 3, AVal.str s, AVal.str c, AVal.str u, AVal.str x, AVal.str y, AVal.str z, iqNO f, iqNO m]], AObj.rows true 9 [[iqNO 3, AVal.str s, AVal.str c, AVal.str bqNO, AVal.str bqNO, AVal.str bqNO, AVal.str bqNO, iqNO 0, iqNO 0]], AObj.rows true 1 [[AVal.str s], [AVal.str c]], AObj.rows true 1 [[AVal.str u]]] [AVal.slc false 0 1 0 1 (some 1)] [AObj.rows true 1 [[AVal.str u]]] (AVal.bool l1) [AObj.rows true 1 [[AVal.str u]]]) :: (tr 13 ++ ((l0 = true) :: (tr 22 ++ ((false = false) :: ((false = false) :: (tr 3 ++ ((Owed.use (owed Tryd.prog 0) 34 [2] [AVal.slc false 2 1 0 2 (some 2)] [AObj.rows true 9 [[iqNO 3, AVal.str s, AVal.str c, AVal.str u, AVal.str x, AVal.str y, AVal.str z, iqNO f, iqNO m]], AObj.rows true 9 [[iqNO 3, AVal.str s, AVal.str c, AVal.str bqNO, AVal.str bqNO, AVal.str bqNO, AVal.str bqNO, iqNO 0, iqNO 0]], AObj.rows true 1 [[AVal.str s], [AVal.str c]]] [AVal.slc false 0 1 0 2 (some 2)] (hsc s c) (AVal.bool l0) (hsc s c)) :: (tr 17 ++ []))))))))))))))) by kernel_rfl) (allP_of (trC 26 ⟨h1, (trC 19 ⟨h2, (trC 10 ⟨⟨h3, rfl, rfl, rfl⟩, (trC 13 ⟨h4, (trC 22 ⟨rfl, ⟨rfl, (trC 3 ⟨⟨h5, rfl, rfl, rfl⟩, (trC 17 trivial)⟩)⟩⟩)⟩)⟩)⟩)⟩))).move ([]) (by kernel_rfl) (by kernel_rfl) (by kernel_rfl)

theorem ck3_5 (s : ByteArray) (c : ByteArray) (u : ByteArray) (x : ByteArray) (y : ByteArray) (z : ByteArray) (f : Int) (m : Int) (l0 : Bool) (l1 : Bool) (v : Bool)
    (h1 : l1 = false)
    (h2 : FOk Tryd.prog 34 [AVal.slc false 0 1 0 1 (some 1)] [AObj.rows true 1 [[AVal.str u]]] (AVal.bool l1) [AObj.rows true 1 [[AVal.str u]]])
    (h3 : l0 = true)
    (h4 : FOk Tryd.prog 34 [AVal.slc false 0 1 0 2 (some 2)] (hsc s c) (AVal.bool l0) (hsc s c)) :
    FOk Tryd.prog 21 ([opv 3 s c u x y z f m]) ([]) (iqNO 1) ([]) :=
  (evalF_ok followed Tryd.func21 (by kernel_rfl) (show evalF Tryd.prog Tryd.f21 ([opv 3 s c u x y z f m]) ([]) ([Dec.use [2] [AVal.slc false 0 1 0 2 (some 2)] (hsc s c) (AVal.bool l0) (hsc s c), Dec.br false, Dec.br false, Dec.br true, Dec.br true, Dec.use [3] [AVal.slc false 0 1 0 1 (some 1)] [AObj.rows true 1 [[AVal.str u]]] (AVal.bool l1) [AObj.rows true 1 [[AVal.str u]]], Dec.br false]) = .ok (FRes.mk (iqNO 1) ([AObj.rows true 9 [[iqNO 3, AVal.str s, AVal.str c, AVal.str u, AVal.str x, AVal.str y, AVal.str z, iqNO f, iqNO m]], AObj.rows true 9 [[iqNO 3, AVal.str s, AVal.str c, AVal.str u, AVal.str x, AVal.str bqNO, AVal.str bqNO, iqNO 0, iqNO 0]], AObj.rows true 1 [[AVal.str s], [AVal.str c]], AObj.rows true 1 [[AVal.str u]]]) (tr 38 ++ ((l1 = false) :: (tr 10 ++ ((Owed.use (owed Tryd.prog 0) 34 [3] [AVal.slc false 3 1 0 1 (some 1)] [AObj.rows true 9 [[iqNO 3, AVal.str s, AVal.str c, AVal.str u, AVal.str x, AVal.str y, AVal.str z, iqNO f, iqNO m]], AObj.rows true 9 [[iqNO 3, AVal.str s, AVal.str c, AVal.str bqNO, AVal.str bqNO, AVal.str bqNO, AVal.str bqNO, iqNO 0, iqNO 0]], AObj.rows true 1 [[AVal.str s], [AVal.str c]], AObj.rows true 1 [[AVal.str u]]] [AVal.slc false 0 1 0 1 (some 1)] [AObj.rows true 1 [[AVal.str u]]] (AVal.bool l1) [AObj.rows true 1 [[AVal.str u]]]) :: (tr 13 ++ ((l0 = true) :: (tr 22 ++ ((false = false) :: ((false = false) :: (tr 3 ++ ((Owed.use (owed Tryd.prog 0) 34 [2] [AVal.slc false 2 1 0 2 (some 2)] [AObj.rows true 9 [[iqNO 3, AVal.str s, AVal.str c, AVal.str u, AVal.str x, AVal.str y, AVal.str z, iqNO f, iqNO m]], AObj.rows true 9 [[iqNO 3, AVal.str s, AVal.str c, AVal.str bqNO, AVal.str bqNO, AVal.str bqNO, AVal.str bqNO, iqNO 0, iqNO 0]], AObj.rows true 1 [[AVal.str s], [AVal.str c]]] [AVal.slc false 0 1 0 2 (some 2)] (hsc s c) (AVal.bool l0) (hsc s c)) :: (tr 17 ++ []))))))))))))) by kernel_rfl) (allP_of (trC 38 ⟨h1, (trC 10 ⟨⟨h2, rfl, rfl, rfl⟩, (trC 13 ⟨h3, (trC 22 ⟨rfl, ⟨rfl, (trC 3 ⟨⟨h4, rfl, rfl, rfl⟩, (trC 17 trivial)⟩)⟩⟩)⟩)⟩)⟩))).move ([]) (by kernel_rfl) (by kernel_rfl) (by kernel_rfl)

theorem ck3_6 (s : ByteArray) (c : ByteArray) (u : ByteArray) (x : ByteArray) (y : ByteArray) (z : ByteArray) (f : Int) (m : Int) (l0 : Bool) (l1 : Bool) (v : Bool)
    (h1 : l0 = false)
    (h2 : FOk Tryd.prog 34 [AVal.slc false 0 1 0 2 (some 2)] (hsc s c) (AVal.bool l0) (hsc s c)) :
    FOk Tryd.prog 21 ([opv 3 s c u x y z f m]) ([]) (iqNO 1) ([]) :=
  (evalF_ok followed Tryd.func21 (by kernel_rfl) (show evalF Tryd.prog Tryd.f21 ([opv 3 s c u x y z f m]) ([]) ([Dec.use [2] [AVal.slc false 0 1 0 2 (some 2)] (hsc s c) (AVal.bool l0) (hsc s c), Dec.br false, Dec.br false, Dec.br true, Dec.br false]) = .ok (FRes.mk (iqNO 1) ([AObj.rows true 9 [[iqNO 3, AVal.str s, AVal.str c, AVal.str u, AVal.str x, AVal.str y, AVal.str z, iqNO f, iqNO m]], AObj.rows true 9 [[iqNO 3, AVal.str s, AVal.str c, AVal.str u, AVal.str x, AVal.str bqNO, AVal.str bqNO, iqNO 0, iqNO 0]], AObj.rows true 1 [[AVal.str s], [AVal.str c]]]) (tr 50 ++ ((l0 = false) :: (tr 22 ++ ((false = false) :: ((false = false) :: (tr 3 ++ ((Owed.use (owed Tryd.prog 0) 34 [2] [AVal.slc false 2 1 0 2 (some 2)] [AObj.rows true 9 [[iqNO 3, AVal.str s, AVal.str c, AVal.str u, AVal.str x, AVal.str y, AVal.str z, iqNO f, iqNO m]], AObj.rows true 9 [[iqNO 3, AVal.str s, AVal.str c, AVal.str bqNO, AVal.str bqNO, AVal.str bqNO, AVal.str bqNO, iqNO 0, iqNO 0]], AObj.rows true 1 [[AVal.str s], [AVal.str c]]] [AVal.slc false 0 1 0 2 (some 2)] (hsc s c) (AVal.bool l0) (hsc s c)) :: (tr 17 ++ []))))))))) by kernel_rfl) (allP_of (trC 50 ⟨h1, (trC 22 ⟨rfl, ⟨rfl, (trC 3 ⟨⟨h2, rfl, rfl, rfl⟩, (trC 17 trivial)⟩)⟩⟩)⟩))).move ([]) (by kernel_rfl) (by kernel_rfl) (by kernel_rfl)

def ck3_T (s : ByteArray) (c : ByteArray) (u : ByteArray) (x : ByteArray) (y : ByteArray) (z : ByteArray) (f : Int) (m : Int) (l0 : Bool) (l1 : Bool) (v : Bool) (Q : AVal → AState → Prop) : Prop := (FOk Tryd.prog 34 [AVal.slc false 0 1 0 2 (some 2)] [AObj.rows true 1 [[AVal.str s], [AVal.str c]]] (AVal.bool l0) [AObj.rows true 1 [[AVal.str s], [AVal.str c]]]) ∧ ((l0 = true) → (FOk Tryd.prog 34 [AVal.slc false 0 1 0 1 (some 1)] [AObj.rows true 1 [[AVal.str u]]] (AVal.bool l1) [AObj.rows true 1 [[AVal.str u]]]) ∧ ((l1 = true) → ((decide ((↑(ByteArray.size x) : Int) ≤ 1024) = true) → (FOk Tryd.prog 35 [AVal.str x] [] (AVal.bool v) []) ∧ (((!v) = true) → Q (AVal.int IntKind.i64 1) ([])) ∧ (((!v) = false) → (((!(fun r => true && r) ((fun r => ByteArray.toList s == ByteArray.toList s && r) ((fun r => ByteArray.toList c == ByteArray.toList c && r) ((fun r => ByteArray.toList u == ByteArray.toList u && r) ((fun r => ByteArray.toList x == ByteArray.toList x && r) ((fun r => [] == ByteArray.toList y && r) ((fun r => [] == ByteArray.toList z && r) ((fun r => 0 == f && r) ((fun r => 0 == m && r) true))))))))) = true) → Q (AVal.int IntKind.i64 1) ([])) ∧ (((!(fun r => true && r) ((fun r => ByteArray.toList s == ByteArray.toList s && r) ((fun r => ByteArray.toList c == ByteArray.toList c && r) ((fun r => ByteArray.toList u == ByteArray.toList u && r) ((fun r => ByteArray.toList x == ByteArray.toList x && r) ((fun r => [] == ByteArray.toList y && r) ((fun r => [] == ByteArray.toList z && r) ((fun r => 0 == f && r) ((fun r => 0 == m && r) true))))))))) = false) → Q (AVal.int IntKind.i64 0) ([])))) ∧ ((decide ((↑(ByteArray.size x) : Int) ≤ 1024) = false) → Q (AVal.int IntKind.i64 1) ([]))) ∧ ((l1 = false) → Q (AVal.int IntKind.i64 1) ([]))) ∧ ((l0 = false) → Q (AVal.int IntKind.i64 1) ([]))
theorem ck3_wp (s : ByteArray) (c : ByteArray) (u : ByteArray) (x : ByteArray) (y : ByteArray) (z : ByteArray) (f : Int) (m : Int) (l0 : Bool) (l1 : Bool) (v : Bool) {Q : AVal → AState → Prop} (h : ck3_T s c u x y z f m l0 l1 v Q) : ∃ r σ', FOk Tryd.prog 21 ([opv 3 s c u x y z f m]) ([]) r σ' ∧ Q r σ' :=
  brE (fun (c0 : l0 = true) => brE (fun (c1 : l1 = true) => brE (fun (c2 : decide ((↑(ByteArray.size x) : Int) ≤ 1024) = true) => brE (fun (c3 : (!v) = true) => ⟨_, _, ck3_1 s c u x y z f m l0 l1 v (c3) ((((h.2.1 c0).2.1 c1).1 c2).1) (c2) (c1) ((h.2.1 c0).1) (c0) (h.1), ((((h.2.1 c0).2.1 c1).1 c2).2.1 c3)⟩) (fun (c3 : (!v) = false) => brE (fun (c4 : (!(fun r => true && r) ((fun r => ByteArray.toList s == ByteArray.toList s && r) ((fun r => ByteArray.toList c == ByteArray.toList c && r) ((fun r => ByteArray.toList u == ByteArray.toList u && r) ((fun r => ByteArray.toList x == ByteArray.toList x && r) ((fun r => [] == ByteArray.toList y && r) ((fun r => [] == ByteArray.toList z && r) ((fun r => 0 == f && r) ((fun r => 0 == m && r) true))))))))) = true) => ⟨_, _, ck3_2 s c u x y z f m l0 l1 v (c4) (c3) ((((h.2.1 c0).2.1 c1).1 c2).1) (c2) (c1) ((h.2.1 c0).1) (c0) (h.1), (((((h.2.1 c0).2.1 c1).1 c2).2.2 c3).1 c4)⟩) (fun (c4 : (!(fun r => true && r) ((fun r => ByteArray.toList s == ByteArray.toList s && r) ((fun r => ByteArray.toList c == ByteArray.toList c && r) ((fun r => ByteArray.toList u == ByteArray.toList u && r) ((fun r => ByteArray.toList x == ByteArray.toList x && r) ((fun r => [] == ByteArray.toList y && r) ((fun r => [] == ByteArray.toList z && r) ((fun r => 0 == f && r) ((fun r => 0 == m && r) true))))))))) = false) => ⟨_, _, ck3_3 s c u x y z f m l0 l1 v (c4) (c3) ((((h.2.1 c0).2.1 c1).1 c2).1) (c2) (c1) ((h.2.1 c0).1) (c0) (h.1), (((((h.2.1 c0).2.1 c1).1 c2).2.2 c3).2 c4)⟩))) (fun (c2 : decide ((↑(ByteArray.size x) : Int) ≤ 1024) = false) => ⟨_, _, ck3_4 s c u x y z f m l0 l1 v (c2) (c1) ((h.2.1 c0).1) (c0) (h.1), (((h.2.1 c0).2.1 c1).2 c2)⟩)) (fun (c1 : l1 = false) => ⟨_, _, ck3_5 s c u x y z f m l0 l1 v (c1) ((h.2.1 c0).1) (c0) (h.1), ((h.2.1 c0).2.2 c1)⟩)) (fun (c0 : l0 = false) => ⟨_, _, ck3_6 s c u x y z f m l0 l1 v (c0) (h.1), (h.2.2 c0)⟩)


theorem ck4_1 (s : ByteArray) (c : ByteArray) (u : ByteArray) (x : ByteArray) (y : ByteArray) (z : ByteArray) (f : Int) (m : Int) (l0 : Bool) (l1 : Bool) (v : Bool)
    (h1 : (!decide (m ≤ 64)) = true)
    (h2 : decide (m ≥ 0) = true)
    (h3 : decide (f ≤ 2147483647) = true)
    (h4 : decide (f ≥ 0) = true)
    (h5 : l0 = true)
    (h6 : FOk Tryd.prog 34 [AVal.slc false 0 1 0 2 (some 2)] (hsc s c) (AVal.bool l0) (hsc s c)) :
    FOk Tryd.prog 21 ([opv 4 s c u x y z f m]) ([]) (iqNO 1) ([]) :=
  (evalF_ok followed Tryd.func21 (by kernel_rfl) (show evalF Tryd.prog Tryd.f21 ([opv 4 s c u x y z f m]) ([]) ([Dec.use [2] [AVal.slc false 0 1 0 2 (some 2)] (hsc s c) (AVal.bool l0) (hsc s c), Dec.br false, Dec.br false, Dec.br false, Dec.br true, Dec.br true, Dec.br true, Dec.br true, Dec.br true, Dec.br true]) = .ok (FRes.mk (iqNO 1) ([AObj.rows true 9 [[iqNO 4, AVal.str s, AVal.str c, AVal.str u, AVal.str x, AVal.str y, AVal.str z, iqNO f, iqNO m]], AObj.rows true 9 [[iqNO 4, AVal.str s, AVal.str c, AVal.str bqNO, AVal.str bqNO, AVal.str bqNO, AVal.str bqNO, iqNO f, iqNO m]], AObj.rows true 1 [[AVal.str s], [AVal.str c]]]) (((!decide (m ≤ 64)) = true) :: (tr 39 ++ ((decide (m ≥ 0) = true) :: (tr 17 ++ ((decide (f ≤ 2147483647) = true) :: (tr 17 ++ ((decide (f ≥ 0) = true) :: (tr 17 ++ ((l0 = true) :: (tr 22 ++ ((false = false) :: ((false = false) :: ((false = false) :: (tr 3 ++ ((Owed.use (owed Tryd.prog 0) 34 [2] [AVal.slc false 2 1 0 2 (some 2)] [AObj.rows true 9 [[iqNO 4, AVal.str s, AVal.str c, AVal.str u, AVal.str x, AVal.str y, AVal.str z, iqNO f, iqNO m]], AObj.rows true 9 [[iqNO 4, AVal.str s, AVal.str c, AVal.str bqNO, AVal.str bqNO, AVal.str bqNO, AVal.str bqNO, iqNO 0, iqNO 0]], AObj.rows true 1 [[AVal.str s], [AVal.str c]]] [AVal.slc false 0 1 0 2 (some 2)] (hsc s c) (AVal.bool l0) (hsc s c)) :: (tr 17 ++ []))))))))))))))))) by kernel_rfl) (allP_of ⟨h1, (trC 39 ⟨h2, (trC 17 ⟨h3, (trC 17 ⟨h4, (trC 17 ⟨h5, (trC 22 ⟨rfl, ⟨rfl, ⟨rfl, (trC 3 ⟨⟨h6, rfl, rfl, rfl⟩, (trC 17 trivial)⟩)⟩⟩⟩)⟩)⟩)⟩)⟩)⟩)).move ([]) (by kernel_rfl) (by kernel_rfl) (by kernel_rfl)

theorem ck4_2 (s : ByteArray) (c : ByteArray) (u : ByteArray) (x : ByteArray) (y : ByteArray) (z : ByteArray) (f : Int) (m : Int) (l0 : Bool) (l1 : Bool) (v : Bool)
    (h1 : (!(fun r => true && r) ((fun r => ByteArray.toList s == ByteArray.toList s && r) ((fun r => ByteArray.toList c == ByteArray.toList c && r) ((fun r => [] == ByteArray.toList u && r) ((fun r => [] == ByteArray.toList x && r) ((fun r => [] == ByteArray.toList y && r) ((fun r => [] == ByteArray.toList z && r) ((fun r => f == f && r) ((fun r => m == m && r) true))))))))) = true)
    (h2 : (!decide (m ≤ 64)) = false)
    (h3 : decide (m ≥ 0) = true)
    (h4 : decide (f ≤ 2147483647) = true)
    (h5 : decide (f ≥ 0) = true)
    (h6 : l0 = true)
    (h7 : FOk Tryd.prog 34 [AVal.slc false 0 1 0 2 (some 2)] (hsc s c) (AVal.bool l0) (hsc s c)) :
    FOk Tryd.prog 21 ([opv 4 s c u x y z f m]) ([]) (iqNO 1) ([]) :=
  (evalF_ok followed Tryd.func21 (by kernel_rfl) (show evalF Tryd.prog Tryd.f21 ([opv 4 s c u x y z f m]) ([]) ([Dec.use [2] [AVal.slc false 0 1 0 2 (some 2)] (hsc s c) (AVal.bool l0) (hsc s c), Dec.br false, Dec.br false, Dec.br false, Dec.br true, Dec.br true, Dec.br true, Dec.br true, Dec.br true, Dec.br false, Dec.br true]) = .ok (FRes.mk (iqNO 1) ([AObj.rows true 9 [[iqNO 4, AVal.str s, AVal.str c, AVal.str u, AVal.str x, AVal.str y, AVal.str z, iqNO f, iqNO m]], AObj.rows true 9 [[iqNO 4, AVal.str s, AVal.str c, AVal.str bqNO, AVal.str bqNO, AVal.str bqNO, AVal.str bqNO, iqNO f, iqNO m]], AObj.rows true 1 [[AVal.str s], [AVal.str c]]]) (((!(fun r => true && r) ((fun r => ByteArray.toList s == ByteArray.toList s && r) ((fun r => ByteArray.toList c == ByteArray.toList c && r) ((fun r => [] == ByteArray.toList u && r) ((fun r => [] == ByteArray.toList x && r) ((fun r => [] == ByteArray.toList y && r) ((fun r => [] == ByteArray.toList z && r) ((fun r => f == f && r) ((fun r => m == m && r) true))))))))) = true) :: (tr 6 ++ (((!decide (m ≤ 64)) = false) :: (tr 39 ++ ((decide (m ≥ 0) = true) :: (tr 17 ++ ((decide (f ≤ 2147483647) = true) :: (tr 17 ++ ((decide (f ≥ 0) = true) :: (tr 17 ++ ((l0 = true) :: (tr 22 ++ ((false = false) :: ((false = false) :: ((false = false) :: (tr 3 ++ ((Owed.use (owed Tryd.prog 0) 34 [2] [AVal.slc false 2 1 0 2 (some 2)] [AObj.rows true 9 [[iqNO 4, AVal.str s, AVal.str c, AVal.str u, AVal.str x, AVal.str y, AVal.str z, iqNO f, iqNO m]], AObj.rows true 9 [[iqNO 4, AVal.str s, AVal.str c, AVal.str bqNO, AVal.str bqNO, AVal.str bqNO, AVal.str bqNO, iqNO 0, iqNO 0]], AObj.rows true 1 [[AVal.str s], [AVal.str c]]] [AVal.slc false 0 1 0 2 (some 2)] (hsc s c) (AVal.bool l0) (hsc s c)) :: (tr 17 ++ []))))))))))))))))))) by kernel_rfl) (allP_of ⟨h1, (trC 6 ⟨h2, (trC 39 ⟨h3, (trC 17 ⟨h4, (trC 17 ⟨h5, (trC 17 ⟨h6, (trC 22 ⟨rfl, ⟨rfl, ⟨rfl, (trC 3 ⟨⟨h7, rfl, rfl, rfl⟩, (trC 17 trivial)⟩)⟩⟩⟩)⟩)⟩)⟩)⟩)⟩)⟩)).move ([]) (by kernel_rfl) (by kernel_rfl) (by kernel_rfl)

theorem ck4_3 (s : ByteArray) (c : ByteArray) (u : ByteArray) (x : ByteArray) (y : ByteArray) (z : ByteArray) (f : Int) (m : Int) (l0 : Bool) (l1 : Bool) (v : Bool)
    (h1 : (!(fun r => true && r) ((fun r => ByteArray.toList s == ByteArray.toList s && r) ((fun r => ByteArray.toList c == ByteArray.toList c && r) ((fun r => [] == ByteArray.toList u && r) ((fun r => [] == ByteArray.toList x && r) ((fun r => [] == ByteArray.toList y && r) ((fun r => [] == ByteArray.toList z && r) ((fun r => f == f && r) ((fun r => m == m && r) true))))))))) = false)
    (h2 : (!decide (m ≤ 64)) = false)
    (h3 : decide (m ≥ 0) = true)
    (h4 : decide (f ≤ 2147483647) = true)
    (h5 : decide (f ≥ 0) = true)
    (h6 : l0 = true)
    (h7 : FOk Tryd.prog 34 [AVal.slc false 0 1 0 2 (some 2)] (hsc s c) (AVal.bool l0) (hsc s c)) :
    FOk Tryd.prog 21 ([opv 4 s c u x y z f m]) ([]) (iqNO 0) ([]) :=
  (evalF_ok followed Tryd.func21 (by kernel_rfl) (show evalF Tryd.prog Tryd.f21 ([opv 4 s c u x y z f m]) ([]) ([Dec.use [2] [AVal.slc false 0 1 0 2 (some 2)] (hsc s c) (AVal.bool l0) (hsc s c), Dec.br false, Dec.br false, Dec.br false, Dec.br true, Dec.br true, Dec.br true, Dec.br true, Dec.br true, Dec.br false, Dec.br false]) = .ok (FRes.mk (iqNO 0) ([AObj.rows true 9 [[iqNO 4, AVal.str s, AVal.str c, AVal.str u, AVal.str x, AVal.str y, AVal.str z, iqNO f, iqNO m]], AObj.rows true 9 [[iqNO 4, AVal.str s, AVal.str c, AVal.str bqNO, AVal.str bqNO, AVal.str bqNO, AVal.str bqNO, iqNO f, iqNO m]], AObj.rows true 1 [[AVal.str s], [AVal.str c]]]) (((!(fun r => true && r) ((fun r => ByteArray.toList s == ByteArray.toList s && r) ((fun r => ByteArray.toList c == ByteArray.toList c && r) ((fun r => [] == ByteArray.toList u && r) ((fun r => [] == ByteArray.toList x && r) ((fun r => [] == ByteArray.toList y && r) ((fun r => [] == ByteArray.toList z && r) ((fun r => f == f && r) ((fun r => m == m && r) true))))))))) = false) :: (tr 6 ++ (((!decide (m ≤ 64)) = false) :: (tr 39 ++ ((decide (m ≥ 0) = true) :: (tr 17 ++ ((decide (f ≤ 2147483647) = true) :: (tr 17 ++ ((decide (f ≥ 0) = true) :: (tr 17 ++ ((l0 = true) :: (tr 22 ++ ((false = false) :: ((false = false) :: ((false = false) :: (tr 3 ++ ((Owed.use (owed Tryd.prog 0) 34 [2] [AVal.slc false 2 1 0 2 (some 2)] [AObj.rows true 9 [[iqNO 4, AVal.str s, AVal.str c, AVal.str u, AVal.str x, AVal.str y, AVal.str z, iqNO f, iqNO m]], AObj.rows true 9 [[iqNO 4, AVal.str s, AVal.str c, AVal.str bqNO, AVal.str bqNO, AVal.str bqNO, AVal.str bqNO, iqNO 0, iqNO 0]], AObj.rows true 1 [[AVal.str s], [AVal.str c]]] [AVal.slc false 0 1 0 2 (some 2)] (hsc s c) (AVal.bool l0) (hsc s c)) :: (tr 17 ++ []))))))))))))))))))) by kernel_rfl) (allP_of ⟨h1, (trC 6 ⟨h2, (trC 39 ⟨h3, (trC 17 ⟨h4, (trC 17 ⟨h5, (trC 17 ⟨h6, (trC 22 ⟨rfl, ⟨rfl, ⟨rfl, (trC 3 ⟨⟨h7, rfl, rfl, rfl⟩, (trC 17 trivial)⟩)⟩⟩⟩)⟩)⟩)⟩)⟩)⟩)⟩)).move ([]) (by kernel_rfl) (by kernel_rfl) (by kernel_rfl)

theorem ck4_4 (s : ByteArray) (c : ByteArray) (u : ByteArray) (x : ByteArray) (y : ByteArray) (z : ByteArray) (f : Int) (m : Int) (l0 : Bool) (l1 : Bool) (v : Bool)
    (h1 : decide (m ≥ 0) = false)
    (h2 : decide (f ≤ 2147483647) = true)
    (h3 : decide (f ≥ 0) = true)
    (h4 : l0 = true)
    (h5 : FOk Tryd.prog 34 [AVal.slc false 0 1 0 2 (some 2)] (hsc s c) (AVal.bool l0) (hsc s c)) :
    FOk Tryd.prog 21 ([opv 4 s c u x y z f m]) ([]) (iqNO 1) ([]) :=
  (evalF_ok followed Tryd.func21 (by kernel_rfl) (show evalF Tryd.prog Tryd.f21 ([opv 4 s c u x y z f m]) ([]) ([Dec.use [2] [AVal.slc false 0 1 0 2 (some 2)] (hsc s c) (AVal.bool l0) (hsc s c), Dec.br false, Dec.br false, Dec.br false, Dec.br true, Dec.br true, Dec.br true, Dec.br true, Dec.br false]) = .ok (FRes.mk (iqNO 1) ([AObj.rows true 9 [[iqNO 4, AVal.str s, AVal.str c, AVal.str u, AVal.str x, AVal.str y, AVal.str z, iqNO f, iqNO m]], AObj.rows true 9 [[iqNO 4, AVal.str s, AVal.str c, AVal.str bqNO, AVal.str bqNO, AVal.str bqNO, AVal.str bqNO, iqNO f, iqNO m]], AObj.rows true 1 [[AVal.str s], [AVal.str c]]]) (tr 32 ++ ((decide (m ≥ 0) = false) :: (tr 17 ++ ((decide (f ≤ 2147483647) = true) :: (tr 17 ++ ((decide (f ≥ 0) = true) :: (tr 17 ++ ((l0 = true) :: (tr 22 ++ ((false = false) :: ((false = false) :: ((false = false) :: (tr 3 ++ ((Owed.use (owed Tryd.prog 0) 34 [2] [AVal.slc false 2 1 0 2 (some 2)] [AObj.rows true 9 [[iqNO 4, AVal.str s, AVal.str c, AVal.str u, AVal.str x, AVal.str y, AVal.str z, iqNO f, iqNO m]], AObj.rows true 9 [[iqNO 4, AVal.str s, AVal.str c, AVal.str bqNO, AVal.str bqNO, AVal.str bqNO, AVal.str bqNO, iqNO 0, iqNO 0]], AObj.rows true 1 [[AVal.str s], [AVal.str c]]] [AVal.slc false 0 1 0 2 (some 2)] (hsc s c) (AVal.bool l0) (hsc s c)) :: (tr 17 ++ [])))))))))))))))) by kernel_rfl) (allP_of (trC 32 ⟨h1, (trC 17 ⟨h2, (trC 17 ⟨h3, (trC 17 ⟨h4, (trC 22 ⟨rfl, ⟨rfl, ⟨rfl, (trC 3 ⟨⟨h5, rfl, rfl, rfl⟩, (trC 17 trivial)⟩)⟩⟩⟩)⟩)⟩)⟩)⟩))).move ([]) (by kernel_rfl) (by kernel_rfl) (by kernel_rfl)

theorem ck4_5 (s : ByteArray) (c : ByteArray) (u : ByteArray) (x : ByteArray) (y : ByteArray) (z : ByteArray) (f : Int) (m : Int) (l0 : Bool) (l1 : Bool) (v : Bool)
    (h1 : decide (f ≤ 2147483647) = false)
    (h2 : decide (f ≥ 0) = true)
    (h3 : l0 = true)
    (h4 : FOk Tryd.prog 34 [AVal.slc false 0 1 0 2 (some 2)] (hsc s c) (AVal.bool l0) (hsc s c)) :
    FOk Tryd.prog 21 ([opv 4 s c u x y z f m]) ([]) (iqNO 1) ([]) :=
  (evalF_ok followed Tryd.func21 (by kernel_rfl) (show evalF Tryd.prog Tryd.f21 ([opv 4 s c u x y z f m]) ([]) ([Dec.use [2] [AVal.slc false 0 1 0 2 (some 2)] (hsc s c) (AVal.bool l0) (hsc s c), Dec.br false, Dec.br false, Dec.br false, Dec.br true, Dec.br true, Dec.br true, Dec.br false]) = .ok (FRes.mk (iqNO 1) ([AObj.rows true 9 [[iqNO 4, AVal.str s, AVal.str c, AVal.str u, AVal.str x, AVal.str y, AVal.str z, iqNO f, iqNO m]], AObj.rows true 9 [[iqNO 4, AVal.str s, AVal.str c, AVal.str bqNO, AVal.str bqNO, AVal.str bqNO, AVal.str bqNO, iqNO f, iqNO m]], AObj.rows true 1 [[AVal.str s], [AVal.str c]]]) (tr 42 ++ ((decide (f ≤ 2147483647) = false) :: (tr 17 ++ ((decide (f ≥ 0) = true) :: (tr 17 ++ ((l0 = true) :: (tr 22 ++ ((false = false) :: ((false = false) :: ((false = false) :: (tr 3 ++ ((Owed.use (owed Tryd.prog 0) 34 [2] [AVal.slc false 2 1 0 2 (some 2)] [AObj.rows true 9 [[iqNO 4, AVal.str s, AVal.str c, AVal.str u, AVal.str x, AVal.str y, AVal.str z, iqNO f, iqNO m]], AObj.rows true 9 [[iqNO 4, AVal.str s, AVal.str c, AVal.str bqNO, AVal.str bqNO, AVal.str bqNO, AVal.str bqNO, iqNO 0, iqNO 0]], AObj.rows true 1 [[AVal.str s], [AVal.str c]]] [AVal.slc false 0 1 0 2 (some 2)] (hsc s c) (AVal.bool l0) (hsc s c)) :: (tr 17 ++ [])))))))))))))) by kernel_rfl) (allP_of (trC 42 ⟨h1, (trC 17 ⟨h2, (trC 17 ⟨h3, (trC 22 ⟨rfl, ⟨rfl, ⟨rfl, (trC 3 ⟨⟨h4, rfl, rfl, rfl⟩, (trC 17 trivial)⟩)⟩⟩⟩)⟩)⟩)⟩))).move ([]) (by kernel_rfl) (by kernel_rfl) (by kernel_rfl)

theorem ck4_6 (s : ByteArray) (c : ByteArray) (u : ByteArray) (x : ByteArray) (y : ByteArray) (z : ByteArray) (f : Int) (m : Int) (l0 : Bool) (l1 : Bool) (v : Bool)
    (h1 : decide (f ≥ 0) = false)
    (h2 : l0 = true)
    (h3 : FOk Tryd.prog 34 [AVal.slc false 0 1 0 2 (some 2)] (hsc s c) (AVal.bool l0) (hsc s c)) :
    FOk Tryd.prog 21 ([opv 4 s c u x y z f m]) ([]) (iqNO 1) ([]) :=
  (evalF_ok followed Tryd.func21 (by kernel_rfl) (show evalF Tryd.prog Tryd.f21 ([opv 4 s c u x y z f m]) ([]) ([Dec.use [2] [AVal.slc false 0 1 0 2 (some 2)] (hsc s c) (AVal.bool l0) (hsc s c), Dec.br false, Dec.br false, Dec.br false, Dec.br true, Dec.br true, Dec.br false]) = .ok (FRes.mk (iqNO 1) ([AObj.rows true 9 [[iqNO 4, AVal.str s, AVal.str c, AVal.str u, AVal.str x, AVal.str y, AVal.str z, iqNO f, iqNO m]], AObj.rows true 9 [[iqNO 4, AVal.str s, AVal.str c, AVal.str bqNO, AVal.str bqNO, AVal.str bqNO, AVal.str bqNO, iqNO f, iqNO m]], AObj.rows true 1 [[AVal.str s], [AVal.str c]]]) (tr 52 ++ ((decide (f ≥ 0) = false) :: (tr 17 ++ ((l0 = true) :: (tr 22 ++ ((false = false) :: ((false = false) :: ((false = false) :: (tr 3 ++ ((Owed.use (owed Tryd.prog 0) 34 [2] [AVal.slc false 2 1 0 2 (some 2)] [AObj.rows true 9 [[iqNO 4, AVal.str s, AVal.str c, AVal.str u, AVal.str x, AVal.str y, AVal.str z, iqNO f, iqNO m]], AObj.rows true 9 [[iqNO 4, AVal.str s, AVal.str c, AVal.str bqNO, AVal.str bqNO, AVal.str bqNO, AVal.str bqNO, iqNO 0, iqNO 0]], AObj.rows true 1 [[AVal.str s], [AVal.str c]]] [AVal.slc false 0 1 0 2 (some 2)] (hsc s c) (AVal.bool l0) (hsc s c)) :: (tr 17 ++ [])))))))))))) by kernel_rfl) (allP_of (trC 52 ⟨h1, (trC 17 ⟨h2, (trC 22 ⟨rfl, ⟨rfl, ⟨rfl, (trC 3 ⟨⟨h3, rfl, rfl, rfl⟩, (trC 17 trivial)⟩)⟩⟩⟩)⟩)⟩))).move ([]) (by kernel_rfl) (by kernel_rfl) (by kernel_rfl)

theorem ck4_7 (s : ByteArray) (c : ByteArray) (u : ByteArray) (x : ByteArray) (y : ByteArray) (z : ByteArray) (f : Int) (m : Int) (l0 : Bool) (l1 : Bool) (v : Bool)
    (h1 : l0 = false)
    (h2 : FOk Tryd.prog 34 [AVal.slc false 0 1 0 2 (some 2)] (hsc s c) (AVal.bool l0) (hsc s c)) :
    FOk Tryd.prog 21 ([opv 4 s c u x y z f m]) ([]) (iqNO 1) ([]) :=
  (evalF_ok followed Tryd.func21 (by kernel_rfl) (show evalF Tryd.prog Tryd.f21 ([opv 4 s c u x y z f m]) ([]) ([Dec.use [2] [AVal.slc false 0 1 0 2 (some 2)] (hsc s c) (AVal.bool l0) (hsc s c), Dec.br false, Dec.br false, Dec.br false, Dec.br true, Dec.br false]) = .ok (FRes.mk (iqNO 1) ([AObj.rows true 9 [[iqNO 4, AVal.str s, AVal.str c, AVal.str u, AVal.str x, AVal.str y, AVal.str z, iqNO f, iqNO m]], AObj.rows true 9 [[iqNO 4, AVal.str s, AVal.str c, AVal.str bqNO, AVal.str bqNO, AVal.str bqNO, AVal.str bqNO, iqNO f, iqNO m]], AObj.rows true 1 [[AVal.str s], [AVal.str c]]]) (tr 62 ++ ((l0 = false) :: (tr 22 ++ ((false = false) :: ((false = false) :: ((false = false) :: (tr 3 ++ ((Owed.use (owed Tryd.prog 0) 34 [2] [AVal.slc false 2 1 0 2 (some 2)] [AObj.rows true 9 [[iqNO 4, AVal.str s, AVal.str c, AVal.str u, AVal.str x, AVal.str y, AVal.str z, iqNO f, iqNO m]], AObj.rows true 9 [[iqNO 4, AVal.str s, AVal.str c, AVal.str bqNO, AVal.str bqNO, AVal.str bqNO, AVal.str bqNO, iqNO 0, iqNO 0]], AObj.rows true 1 [[AVal.str s], [AVal.str c]]] [AVal.slc false 0 1 0 2 (some 2)] (hsc s c) (AVal.bool l0) (hsc s c)) :: (tr 17 ++ [])))))))))) by kernel_rfl) (allP_of (trC 62 ⟨h1, (trC 22 ⟨rfl, ⟨rfl, ⟨rfl, (trC 3 ⟨⟨h2, rfl, rfl, rfl⟩, (trC 17 trivial)⟩)⟩⟩⟩)⟩))).move ([]) (by kernel_rfl) (by kernel_rfl) (by kernel_rfl)

def ck4_T (s : ByteArray) (c : ByteArray) (u : ByteArray) (x : ByteArray) (y : ByteArray) (z : ByteArray) (f : Int) (m : Int) (l0 : Bool) (l1 : Bool) (v : Bool) (Q : AVal → AState → Prop) : Prop := (FOk Tryd.prog 34 [AVal.slc false 0 1 0 2 (some 2)] [AObj.rows true 1 [[AVal.str s], [AVal.str c]]] (AVal.bool l0) [AObj.rows true 1 [[AVal.str s], [AVal.str c]]]) ∧ ((l0 = true) → ((decide (f ≥ 0) = true) → ((decide (f ≤ 2147483647) = true) → ((decide (m ≥ 0) = true) → (((!decide (m ≤ 64)) = true) → Q (AVal.int IntKind.i64 1) ([])) ∧ (((!decide (m ≤ 64)) = false) → (((!(fun r => true && r) ((fun r => ByteArray.toList s == ByteArray.toList s && r) ((fun r => ByteArray.toList c == ByteArray.toList c && r) ((fun r => [] == ByteArray.toList u && r) ((fun r => [] == ByteArray.toList x && r) ((fun r => [] == ByteArray.toList y && r) ((fun r => [] == ByteArray.toList z && r) ((fun r => f == f && r) ((fun r => m == m && r) true))))))))) = true) → Q (AVal.int IntKind.i64 1) ([])) ∧ (((!(fun r => true && r) ((fun r => ByteArray.toList s == ByteArray.toList s && r) ((fun r => ByteArray.toList c == ByteArray.toList c && r) ((fun r => [] == ByteArray.toList u && r) ((fun r => [] == ByteArray.toList x && r) ((fun r => [] == ByteArray.toList y && r) ((fun r => [] == ByteArray.toList z && r) ((fun r => f == f && r) ((fun r => m == m && r) true))))))))) = false) → Q (AVal.int IntKind.i64 0) ([])))) ∧ ((decide (m ≥ 0) = false) → Q (AVal.int IntKind.i64 1) ([]))) ∧ ((decide (f ≤ 2147483647) = false) → Q (AVal.int IntKind.i64 1) ([]))) ∧ ((decide (f ≥ 0) = false) → Q (AVal.int IntKind.i64 1) ([]))) ∧ ((l0 = false) → Q (AVal.int IntKind.i64 1) ([]))
theorem ck4_wp (s : ByteArray) (c : ByteArray) (u : ByteArray) (x : ByteArray) (y : ByteArray) (z : ByteArray) (f : Int) (m : Int) (l0 : Bool) (l1 : Bool) (v : Bool) {Q : AVal → AState → Prop} (h : ck4_T s c u x y z f m l0 l1 v Q) : ∃ r σ', FOk Tryd.prog 21 ([opv 4 s c u x y z f m]) ([]) r σ' ∧ Q r σ' :=
  brE (fun (c0 : l0 = true) => brE (fun (c1 : decide (f ≥ 0) = true) => brE (fun (c2 : decide (f ≤ 2147483647) = true) => brE (fun (c3 : decide (m ≥ 0) = true) => brE (fun (c4 : (!decide (m ≤ 64)) = true) => ⟨_, _, ck4_1 s c u x y z f m l0 l1 v (c4) (c3) (c2) (c1) (c0) (h.1), (((((h.2.1 c0).1 c1).1 c2).1 c3).1 c4)⟩) (fun (c4 : (!decide (m ≤ 64)) = false) => brE (fun (c5 : (!(fun r => true && r) ((fun r => ByteArray.toList s == ByteArray.toList s && r) ((fun r => ByteArray.toList c == ByteArray.toList c && r) ((fun r => [] == ByteArray.toList u && r) ((fun r => [] == ByteArray.toList x && r) ((fun r => [] == ByteArray.toList y && r) ((fun r => [] == ByteArray.toList z && r) ((fun r => f == f && r) ((fun r => m == m && r) true))))))))) = true) => ⟨_, _, ck4_2 s c u x y z f m l0 l1 v (c5) (c4) (c3) (c2) (c1) (c0) (h.1), ((((((h.2.1 c0).1 c1).1 c2).1 c3).2 c4).1 c5)⟩) (fun (c5 : (!(fun r => true && r) ((fun r => ByteArray.toList s == ByteArray.toList s && r) ((fun r => ByteArray.toList c == ByteArray.toList c && r) ((fun r => [] == ByteArray.toList u && r) ((fun r => [] == ByteArray.toList x && r) ((fun r => [] == ByteArray.toList y && r) ((fun r => [] == ByteArray.toList z && r) ((fun r => f == f && r) ((fun r => m == m && r) true))))))))) = false) => ⟨_, _, ck4_3 s c u x y z f m l0 l1 v (c5) (c4) (c3) (c2) (c1) (c0) (h.1), ((((((h.2.1 c0).1 c1).1 c2).1 c3).2 c4).2 c5)⟩))) (fun (c3 : decide (m ≥ 0) = false) => ⟨_, _, ck4_4 s c u x y z f m l0 l1 v (c3) (c2) (c1) (c0) (h.1), ((((h.2.1 c0).1 c1).1 c2).2 c3)⟩)) (fun (c2 : decide (f ≤ 2147483647) = false) => ⟨_, _, ck4_5 s c u x y z f m l0 l1 v (c2) (c1) (c0) (h.1), (((h.2.1 c0).1 c1).2 c2)⟩)) (fun (c1 : decide (f ≥ 0) = false) => ⟨_, _, ck4_6 s c u x y z f m l0 l1 v (c1) (c0) (h.1), ((h.2.1 c0).2 c1)⟩)) (fun (c0 : l0 = false) => ⟨_, _, ck4_7 s c u x y z f m l0 l1 v (c0) (h.1), (h.2.2 c0)⟩)


theorem ck7_1 (s : ByteArray) (c : ByteArray) (u : ByteArray) (x : ByteArray) (y : ByteArray) (z : ByteArray) (f : Int) (m : Int) (l0 : Bool) (l1 : Bool) (v : Bool)
    (h1 : (!l1) = true)
    (h2 : FOk Tryd.prog 34 [AVal.slc false 0 1 0 1 (some 1)] [AObj.rows true 1 [[AVal.str u]]] (AVal.bool l1) [AObj.rows true 1 [[AVal.str u]]])
    (h3 : FOk Tryd.prog 34 [AVal.slc false 0 1 0 2 (some 2)] (hsc s c) (AVal.bool l0) (hsc s c)) :
    FOk Tryd.prog 21 ([opv 7 s c u x y z f m]) ([]) (iqNO 1) ([]) :=
  (evalF_ok followed Tryd.func21 (by kernel_rfl) (show evalF Tryd.prog Tryd.f21 ([opv 7 s c u x y z f m]) ([]) ([Dec.use [2] [AVal.slc false 0 1 0 2 (some 2)] (hsc s c) (AVal.bool l0) (hsc s c), Dec.br false, Dec.br false, Dec.br false, Dec.br false, Dec.br false, Dec.br false, Dec.br true, Dec.use [3] [AVal.slc false 0 1 0 1 (some 1)] [AObj.rows true 1 [[AVal.str u]]] (AVal.bool l1) [AObj.rows true 1 [[AVal.str u]]], Dec.br true]) = .ok (FRes.mk (iqNO 1) ([AObj.rows true 9 [[iqNO 7, AVal.str s, AVal.str c, AVal.str u, AVal.str x, AVal.str y, AVal.str z, iqNO f, iqNO m]], AObj.rows true 9 [[iqNO 7, AVal.str bqNO, AVal.str bqNO, AVal.str u, AVal.str bqNO, AVal.str bqNO, AVal.str bqNO, iqNO 0, iqNO 0]], AObj.rows true 1 [[AVal.str s], [AVal.str c]], AObj.rows true 1 [[AVal.str u]]]) (((!l1) = true) :: (tr 13 ++ ((Owed.use (owed Tryd.prog 0) 34 [3] [AVal.slc false 3 1 0 1 (some 1)] [AObj.rows true 9 [[iqNO 7, AVal.str s, AVal.str c, AVal.str u, AVal.str x, AVal.str y, AVal.str z, iqNO f, iqNO m]], AObj.rows true 9 [[iqNO 7, AVal.str s, AVal.str c, AVal.str bqNO, AVal.str bqNO, AVal.str bqNO, AVal.str bqNO, iqNO 0, iqNO 0]], AObj.rows true 1 [[AVal.str s], [AVal.str c]], AObj.rows true 1 [[AVal.str u]]] [AVal.slc false 0 1 0 1 (some 1)] [AObj.rows true 1 [[AVal.str u]]] (AVal.bool l1) [AObj.rows true 1 [[AVal.str u]]]) :: (tr 34 ++ ((false = false) :: ((false = false) :: ((false = false) :: ((false = false) :: ((false = false) :: ((false = false) :: (tr 3 ++ ((Owed.use (owed Tryd.prog 0) 34 [2] [AVal.slc false 2 1 0 2 (some 2)] [AObj.rows true 9 [[iqNO 7, AVal.str s, AVal.str c, AVal.str u, AVal.str x, AVal.str y, AVal.str z, iqNO f, iqNO m]], AObj.rows true 9 [[iqNO 7, AVal.str s, AVal.str c, AVal.str bqNO, AVal.str bqNO, AVal.str bqNO, AVal.str bqNO, iqNO 0, iqNO 0]], AObj.rows true 1 [[AVal.str s], [AVal.str c]]] [AVal.slc false 0 1 0 2 (some 2)] (hsc s c) (AVal.bool l0) (hsc s c)) :: (tr 17 ++ [])))))))))))))) by kernel_rfl) (allP_of ⟨h1, (trC 13 ⟨⟨h2, rfl, rfl, rfl⟩, (trC 34 ⟨rfl, ⟨rfl, ⟨rfl, ⟨rfl, ⟨rfl, ⟨rfl, (trC 3 ⟨⟨h3, rfl, rfl, rfl⟩, (trC 17 trivial)⟩)⟩⟩⟩⟩⟩⟩)⟩)⟩)).move ([]) (by kernel_rfl) (by kernel_rfl) (by kernel_rfl)

theorem ck7_2 (s : ByteArray) (c : ByteArray) (u : ByteArray) (x : ByteArray) (y : ByteArray) (z : ByteArray) (f : Int) (m : Int) (l0 : Bool) (l1 : Bool) (v : Bool)
    (h1 : (!(fun r => true && r) ((fun r => [] == ByteArray.toList s && r) ((fun r => [] == ByteArray.toList c && r) ((fun r => ByteArray.toList u == ByteArray.toList u && r) ((fun r => [] == ByteArray.toList x && r) ((fun r => [] == ByteArray.toList y && r) ((fun r => [] == ByteArray.toList z && r) ((fun r => 0 == f && r) ((fun r => 0 == m && r) true))))))))) = true)
    (h2 : (!l1) = false)
    (h3 : FOk Tryd.prog 34 [AVal.slc false 0 1 0 1 (some 1)] [AObj.rows true 1 [[AVal.str u]]] (AVal.bool l1) [AObj.rows true 1 [[AVal.str u]]])
    (h4 : FOk Tryd.prog 34 [AVal.slc false 0 1 0 2 (some 2)] (hsc s c) (AVal.bool l0) (hsc s c)) :
    FOk Tryd.prog 21 ([opv 7 s c u x y z f m]) ([]) (iqNO 1) ([]) :=
  (evalF_ok followed Tryd.func21 (by kernel_rfl) (show evalF Tryd.prog Tryd.f21 ([opv 7 s c u x y z f m]) ([]) ([Dec.use [2] [AVal.slc false 0 1 0 2 (some 2)] (hsc s c) (AVal.bool l0) (hsc s c), Dec.br false, Dec.br false, Dec.br false, Dec.br false, Dec.br false, Dec.br false, Dec.br true, Dec.use [3] [AVal.slc false 0 1 0 1 (some 1)] [AObj.rows true 1 [[AVal.str u]]] (AVal.bool l1) [AObj.rows true 1 [[AVal.str u]]], Dec.br false, Dec.br true]) = .ok (FRes.mk (iqNO 1) ([AObj.rows true 9 [[iqNO 7, AVal.str s, AVal.str c, AVal.str u, AVal.str x, AVal.str y, AVal.str z, iqNO f, iqNO m]], AObj.rows true 9 [[iqNO 7, AVal.str bqNO, AVal.str bqNO, AVal.str u, AVal.str bqNO, AVal.str bqNO, AVal.str bqNO, iqNO 0, iqNO 0]], AObj.rows true 1 [[AVal.str s], [AVal.str c]], AObj.rows true 1 [[AVal.str u]]]) (((!(fun r => true && r) ((fun r => [] == ByteArray.toList s && r) ((fun r => [] == ByteArray.toList c && r) ((fun r => ByteArray.toList u == ByteArray.toList u && r) ((fun r => [] == ByteArray.toList x && r) ((fun r => [] == ByteArray.toList y && r) ((fun r => [] == ByteArray.toList z && r) ((fun r => 0 == f && r) ((fun r => 0 == m && r) true))))))))) = true) :: (tr 6 ++ (((!l1) = false) :: (tr 13 ++ ((Owed.use (owed Tryd.prog 0) 34 [3] [AVal.slc false 3 1 0 1 (some 1)] [AObj.rows true 9 [[iqNO 7, AVal.str s, AVal.str c, AVal.str u, AVal.str x, AVal.str y, AVal.str z, iqNO f, iqNO m]], AObj.rows true 9 [[iqNO 7, AVal.str s, AVal.str c, AVal.str bqNO, AVal.str bqNO, AVal.str bqNO, AVal.str bqNO, iqNO 0, iqNO 0]], AObj.rows true 1 [[AVal.str s], [AVal.str c]], AObj.rows true 1 [[AVal.str u]]] [AVal.slc false 0 1 0 1 (some 1)] [AObj.rows true 1 [[AVal.str u]]] (AVal.bool l1) [AObj.rows true 1 [[AVal.str u]]]) :: (tr 34 ++ ((false = false) :: ((false = false) :: ((false = false) :: ((false = false) :: ((false = false) :: ((false = false) :: (tr 3 ++ ((Owed.use (owed Tryd.prog 0) 34 [2] [AVal.slc false 2 1 0 2 (some 2)] [AObj.rows true 9 [[iqNO 7, AVal.str s, AVal.str c, AVal.str u, AVal.str x, AVal.str y, AVal.str z, iqNO f, iqNO m]], AObj.rows true 9 [[iqNO 7, AVal.str s, AVal.str c, AVal.str bqNO, AVal.str bqNO, AVal.str bqNO, AVal.str bqNO, iqNO 0, iqNO 0]], AObj.rows true 1 [[AVal.str s], [AVal.str c]]] [AVal.slc false 0 1 0 2 (some 2)] (hsc s c) (AVal.bool l0) (hsc s c)) :: (tr 17 ++ [])))))))))))))))) by kernel_rfl) (allP_of ⟨h1, (trC 6 ⟨h2, (trC 13 ⟨⟨h3, rfl, rfl, rfl⟩, (trC 34 ⟨rfl, ⟨rfl, ⟨rfl, ⟨rfl, ⟨rfl, ⟨rfl, (trC 3 ⟨⟨h4, rfl, rfl, rfl⟩, (trC 17 trivial)⟩)⟩⟩⟩⟩⟩⟩)⟩)⟩)⟩)).move ([]) (by kernel_rfl) (by kernel_rfl) (by kernel_rfl)

theorem ck7_3 (s : ByteArray) (c : ByteArray) (u : ByteArray) (x : ByteArray) (y : ByteArray) (z : ByteArray) (f : Int) (m : Int) (l0 : Bool) (l1 : Bool) (v : Bool)
    (h1 : (!(fun r => true && r) ((fun r => [] == ByteArray.toList s && r) ((fun r => [] == ByteArray.toList c && r) ((fun r => ByteArray.toList u == ByteArray.toList u && r) ((fun r => [] == ByteArray.toList x && r) ((fun r => [] == ByteArray.toList y && r) ((fun r => [] == ByteArray.toList z && r) ((fun r => 0 == f && r) ((fun r => 0 == m && r) true))))))))) = false)
    (h2 : (!l1) = false)
    (h3 : FOk Tryd.prog 34 [AVal.slc false 0 1 0 1 (some 1)] [AObj.rows true 1 [[AVal.str u]]] (AVal.bool l1) [AObj.rows true 1 [[AVal.str u]]])
    (h4 : FOk Tryd.prog 34 [AVal.slc false 0 1 0 2 (some 2)] (hsc s c) (AVal.bool l0) (hsc s c)) :
    FOk Tryd.prog 21 ([opv 7 s c u x y z f m]) ([]) (iqNO 0) ([]) :=
  (evalF_ok followed Tryd.func21 (by kernel_rfl) (show evalF Tryd.prog Tryd.f21 ([opv 7 s c u x y z f m]) ([]) ([Dec.use [2] [AVal.slc false 0 1 0 2 (some 2)] (hsc s c) (AVal.bool l0) (hsc s c), Dec.br false, Dec.br false, Dec.br false, Dec.br false, Dec.br false, Dec.br false, Dec.br true, Dec.use [3] [AVal.slc false 0 1 0 1 (some 1)] [AObj.rows true 1 [[AVal.str u]]] (AVal.bool l1) [AObj.rows true 1 [[AVal.str u]]], Dec.br false, Dec.br false]) = .ok (FRes.mk (iqNO 0) ([AObj.rows true 9 [[iqNO 7, AVal.str s, AVal.str c, AVal.str u, AVal.str x, AVal.str y, AVal.str z, iqNO f, iqNO m]], AObj.rows true 9 [[iqNO 7, AVal.str bqNO, AVal.str bqNO, AVal.str u, AVal.str bqNO, AVal.str bqNO, AVal.str bqNO, iqNO 0, iqNO 0]], AObj.rows true 1 [[AVal.str s], [AVal.str c]], AObj.rows true 1 [[AVal.str u]]]) (((!(fun r => true && r) ((fun r => [] == ByteArray.toList s && r) ((fun r => [] == ByteArray.toList c && r) ((fun r => ByteArray.toList u == ByteArray.toList u && r) ((fun r => [] == ByteArray.toList x && r) ((fun r => [] == ByteArray.toList y && r) ((fun r => [] == ByteArray.toList z && r) ((fun r => 0 == f && r) ((fun r => 0 == m && r) true))))))))) = false) :: (tr 6 ++ (((!l1) = false) :: (tr 13 ++ ((Owed.use (owed Tryd.prog 0) 34 [3] [AVal.slc false 3 1 0 1 (some 1)] [AObj.rows true 9 [[iqNO 7, AVal.str s, AVal.str c, AVal.str u, AVal.str x, AVal.str y, AVal.str z, iqNO f, iqNO m]], AObj.rows true 9 [[iqNO 7, AVal.str s, AVal.str c, AVal.str bqNO, AVal.str bqNO, AVal.str bqNO, AVal.str bqNO, iqNO 0, iqNO 0]], AObj.rows true 1 [[AVal.str s], [AVal.str c]], AObj.rows true 1 [[AVal.str u]]] [AVal.slc false 0 1 0 1 (some 1)] [AObj.rows true 1 [[AVal.str u]]] (AVal.bool l1) [AObj.rows true 1 [[AVal.str u]]]) :: (tr 34 ++ ((false = false) :: ((false = false) :: ((false = false) :: ((false = false) :: ((false = false) :: ((false = false) :: (tr 3 ++ ((Owed.use (owed Tryd.prog 0) 34 [2] [AVal.slc false 2 1 0 2 (some 2)] [AObj.rows true 9 [[iqNO 7, AVal.str s, AVal.str c, AVal.str u, AVal.str x, AVal.str y, AVal.str z, iqNO f, iqNO m]], AObj.rows true 9 [[iqNO 7, AVal.str s, AVal.str c, AVal.str bqNO, AVal.str bqNO, AVal.str bqNO, AVal.str bqNO, iqNO 0, iqNO 0]], AObj.rows true 1 [[AVal.str s], [AVal.str c]]] [AVal.slc false 0 1 0 2 (some 2)] (hsc s c) (AVal.bool l0) (hsc s c)) :: (tr 17 ++ [])))))))))))))))) by kernel_rfl) (allP_of ⟨h1, (trC 6 ⟨h2, (trC 13 ⟨⟨h3, rfl, rfl, rfl⟩, (trC 34 ⟨rfl, ⟨rfl, ⟨rfl, ⟨rfl, ⟨rfl, ⟨rfl, (trC 3 ⟨⟨h4, rfl, rfl, rfl⟩, (trC 17 trivial)⟩)⟩⟩⟩⟩⟩⟩)⟩)⟩)⟩)).move ([]) (by kernel_rfl) (by kernel_rfl) (by kernel_rfl)

def ck7_T (s : ByteArray) (c : ByteArray) (u : ByteArray) (x : ByteArray) (y : ByteArray) (z : ByteArray) (f : Int) (m : Int) (l0 : Bool) (l1 : Bool) (v : Bool) (Q : AVal → AState → Prop) : Prop := (FOk Tryd.prog 34 [AVal.slc false 0 1 0 2 (some 2)] [AObj.rows true 1 [[AVal.str s], [AVal.str c]]] (AVal.bool l0) [AObj.rows true 1 [[AVal.str s], [AVal.str c]]]) ∧ (FOk Tryd.prog 34 [AVal.slc false 0 1 0 1 (some 1)] [AObj.rows true 1 [[AVal.str u]]] (AVal.bool l1) [AObj.rows true 1 [[AVal.str u]]]) ∧ (((!l1) = true) → Q (AVal.int IntKind.i64 1) ([])) ∧ (((!l1) = false) → (((!(fun r => true && r) ((fun r => [] == ByteArray.toList s && r) ((fun r => [] == ByteArray.toList c && r) ((fun r => ByteArray.toList u == ByteArray.toList u && r) ((fun r => [] == ByteArray.toList x && r) ((fun r => [] == ByteArray.toList y && r) ((fun r => [] == ByteArray.toList z && r) ((fun r => 0 == f && r) ((fun r => 0 == m && r) true))))))))) = true) → Q (AVal.int IntKind.i64 1) ([])) ∧ (((!(fun r => true && r) ((fun r => [] == ByteArray.toList s && r) ((fun r => [] == ByteArray.toList c && r) ((fun r => ByteArray.toList u == ByteArray.toList u && r) ((fun r => [] == ByteArray.toList x && r) ((fun r => [] == ByteArray.toList y && r) ((fun r => [] == ByteArray.toList z && r) ((fun r => 0 == f && r) ((fun r => 0 == m && r) true))))))))) = false) → Q (AVal.int IntKind.i64 0) ([])))
theorem ck7_wp (s : ByteArray) (c : ByteArray) (u : ByteArray) (x : ByteArray) (y : ByteArray) (z : ByteArray) (f : Int) (m : Int) (l0 : Bool) (l1 : Bool) (v : Bool) {Q : AVal → AState → Prop} (h : ck7_T s c u x y z f m l0 l1 v Q) : ∃ r σ', FOk Tryd.prog 21 ([opv 7 s c u x y z f m]) ([]) r σ' ∧ Q r σ' :=
  brE (fun (c0 : (!l1) = true) => ⟨_, _, ck7_1 s c u x y z f m l0 l1 v (c0) (h.2.1) (h.1), (h.2.2.1 c0)⟩) (fun (c0 : (!l1) = false) => brE (fun (c1 : (!(fun r => true && r) ((fun r => [] == ByteArray.toList s && r) ((fun r => [] == ByteArray.toList c && r) ((fun r => ByteArray.toList u == ByteArray.toList u && r) ((fun r => [] == ByteArray.toList x && r) ((fun r => [] == ByteArray.toList y && r) ((fun r => [] == ByteArray.toList z && r) ((fun r => 0 == f && r) ((fun r => 0 == m && r) true))))))))) = true) => ⟨_, _, ck7_2 s c u x y z f m l0 l1 v (c1) (c0) (h.2.1) (h.1), ((h.2.2.2 c0).1 c1)⟩) (fun (c1 : (!(fun r => true && r) ((fun r => [] == ByteArray.toList s && r) ((fun r => [] == ByteArray.toList c && r) ((fun r => ByteArray.toList u == ByteArray.toList u && r) ((fun r => [] == ByteArray.toList x && r) ((fun r => [] == ByteArray.toList y && r) ((fun r => [] == ByteArray.toList z && r) ((fun r => 0 == f && r) ((fun r => 0 == m && r) true))))))))) = false) => ⟨_, _, ck7_3 s c u x y z f m l0 l1 v (c1) (c0) (h.2.1) (h.1), ((h.2.2.2 c0).2 c1)⟩))


theorem ck0_1 (k : Int) (s : ByteArray) (c : ByteArray) (u : ByteArray) (x : ByteArray) (y : ByteArray) (z : ByteArray) (f : Int) (m : Int) (l0 : Bool) (l1 : Bool) (v : Bool)
    (h1 : (k == 7) = false)
    (h2 : (k == 6) = false)
    (h3 : (k == 5) = false)
    (h4 : (k == 4) = false)
    (h5 : (k == 3) = false)
    (h6 : (k == 2) = false)
    (h7 : (k == 1) = false)
    (h8 : FOk Tryd.prog 34 [AVal.slc false 0 1 0 2 (some 2)] (hsc s c) (AVal.bool l0) (hsc s c)) :
    FOk Tryd.prog 21 ([opv k s c u x y z f m]) ([]) (iqNO 1) ([]) :=
  (evalF_ok followed Tryd.func21 (by kernel_rfl) (show evalF Tryd.prog Tryd.f21 ([opv k s c u x y z f m]) ([]) ([Dec.use [2] [AVal.slc false 0 1 0 2 (some 2)] (hsc s c) (AVal.bool l0) (hsc s c), Dec.br false, Dec.br false, Dec.br false, Dec.br false, Dec.br false, Dec.br false, Dec.br false]) = .ok (FRes.mk (iqNO 1) ([AObj.rows true 9 [[iqNO k, AVal.str s, AVal.str c, AVal.str u, AVal.str x, AVal.str y, AVal.str z, iqNO f, iqNO m]], AObj.rows true 9 [[iqNO k, AVal.str s, AVal.str c, AVal.str bqNO, AVal.str bqNO, AVal.str bqNO, AVal.str bqNO, iqNO 0, iqNO 0]], AObj.rows true 1 [[AVal.str s], [AVal.str c]]]) (((k == 7) = false) :: (((k == 6) = false) :: (((k == 5) = false) :: (((k == 4) = false) :: (((k == 3) = false) :: (((k == 2) = false) :: (((k == 1) = false) :: (tr 3 ++ ((Owed.use (owed Tryd.prog 0) 34 [2] [AVal.slc false 2 1 0 2 (some 2)] [AObj.rows true 9 [[iqNO k, AVal.str s, AVal.str c, AVal.str u, AVal.str x, AVal.str y, AVal.str z, iqNO f, iqNO m]], AObj.rows true 9 [[iqNO k, AVal.str s, AVal.str c, AVal.str bqNO, AVal.str bqNO, AVal.str bqNO, AVal.str bqNO, iqNO 0, iqNO 0]], AObj.rows true 1 [[AVal.str s], [AVal.str c]]] [AVal.slc false 0 1 0 2 (some 2)] (hsc s c) (AVal.bool l0) (hsc s c)) :: (tr 17 ++ []))))))))))) by kernel_rfl) (allP_of ⟨h1, ⟨h2, ⟨h3, ⟨h4, ⟨h5, ⟨h6, ⟨h7, (trC 3 ⟨⟨h8, rfl, rfl, rfl⟩, (trC 17 trivial)⟩)⟩⟩⟩⟩⟩⟩⟩)).move ([]) (by kernel_rfl) (by kernel_rfl) (by kernel_rfl)

def ck0_T (k : Int) (s : ByteArray) (c : ByteArray) (u : ByteArray) (x : ByteArray) (y : ByteArray) (z : ByteArray) (f : Int) (m : Int) (l0 : Bool) (l1 : Bool) (v : Bool) (Q : AVal → AState → Prop) : Prop := (FOk Tryd.prog 34 [AVal.slc false 0 1 0 2 (some 2)] [AObj.rows true 1 [[AVal.str s], [AVal.str c]]] (AVal.bool l0) [AObj.rows true 1 [[AVal.str s], [AVal.str c]]]) ∧ ((k == 1) = false) ∧ ((k == 2) = false) ∧ ((k == 3) = false) ∧ ((k == 4) = false) ∧ ((k == 5) = false) ∧ ((k == 6) = false) ∧ ((k == 7) = false) ∧ Q (AVal.int IntKind.i64 1) ([])
theorem ck0_wp (k : Int) (s : ByteArray) (c : ByteArray) (u : ByteArray) (x : ByteArray) (y : ByteArray) (z : ByteArray) (f : Int) (m : Int) (l0 : Bool) (l1 : Bool) (v : Bool) {Q : AVal → AState → Prop} (h : ck0_T k s c u x y z f m l0 l1 v Q) : ∃ r σ', FOk Tryd.prog 21 ([opv k s c u x y z f m]) ([]) r σ' ∧ Q r σ' :=
  ⟨_, _, ck0_1 k s c u x y z f m l0 l1 v (h.2.2.2.2.2.2.2.1) (h.2.2.2.2.2.2.1) (h.2.2.2.2.2.1) (h.2.2.2.2.1) (h.2.2.2.1) (h.2.2.1) (h.2.1) (h.1), h.2.2.2.2.2.2.2.2⟩


end Go.MN
end

section
set_option linter.unusedVariables false
set_option linter.unusedSimpArgs false
set_option maxRecDepth 100000
namespace Go.MN
open Go Go.Abs Go.Proofs
theorem emp1 (t : ByteArray) : (t.toList == (ByteArray.mk #[]).toList) = decide (t.size = 0) := emp_eq t
theorem emp2 (t : ByteArray) : (([] : List UInt8) == t.toList) = decide (t.size = 0) := by
  rw [toList_lB, ← lB_length]
  cases lB t <;> simp
theorem int1 (f : Int) : (f == 0) = decide (f = 0) := rfl
theorem int2 (f : Int) : ((0 : Int) == f) = decide (f = 0) := by
  by_cases h : f = 0
  · subst h; rfl
  · rw [decide_eq_false h]; simp; omega
end Go.MN
end

section
set_option linter.unusedVariables false
set_option linter.unusedSimpArgs false
set_option maxRecDepth 100000
namespace Go.MN
open Go Go.Abs Go.Proofs
theorem vld_ok (x : ByteArray) (hx : x.size ≤ 140737488355328) : FOk Tryd.prog 35 [.str x] [] (.bool (V x)) [] := FOk.wp (vld_wp x (V x) ⟨valid_ok x, rfl, rfl⟩)
def may1 (s c u x y z : ByteArray) (f m : Int) : Bool := (decide (u.size = 0) && (decide (x.size = 0) && (decide (y.size = 0) && (decide (z.size = 0) && (decide (f = 0) && decide (m = 0)))))) && (labB s && labB c)
theorem ck1_ok (s c u x y z : ByteArray) (f m : Int) (hx : x.size ≤ 140737488355328) : FOk Tryd.prog 21 [opv 1 s c u x y z f m] [] (.int .i64 (if may1 s c u x y z f m = true then 0 else 1)) [] := by
  refine FOk.wp (ck1_wp s c u x y z f m (labB s && labB c) true (V x) ?_)
  unfold ck1_T may1
  simp only [emp1, emp2, int1, int2, beq_self_eq_true, Bool.true_and, Bool.and_true, lab2_ok s c, true_and]
  cases hz : (decide (u.size = 0) && (decide (x.size = 0) && (decide (y.size = 0) && (decide (z.size = 0) && (decide (f = 0) && decide (m = 0)))))) <;> cases h0 : (labB s && labB c) <;> simp_all
def may2 (s c u x y z : ByteArray) (f m : Int) : Bool := (decide (x.size = 0) && (decide (y.size = 0) && (decide (z.size = 0) && (decide (f = 0) && decide (m = 0))))) && ((labB s && labB c) && labB u)
theorem ck2_ok (s c u x y z : ByteArray) (f m : Int) (hx : x.size ≤ 140737488355328) : FOk Tryd.prog 21 [opv 2 s c u x y z f m] [] (.int .i64 (if may2 s c u x y z f m = true then 0 else 1)) [] := by
  refine FOk.wp (ck2_wp s c u x y z f m (labB s && labB c) (labB u) (V x) ?_)
  unfold ck2_T may2
  simp only [emp1, emp2, int1, int2, beq_self_eq_true, Bool.true_and, Bool.and_true, lab2_ok s c, lab1_ok u, true_and]
  cases hz : (decide (x.size = 0) && (decide (y.size = 0) && (decide (z.size = 0) && (decide (f = 0) && decide (m = 0))))) <;> cases h0 : (labB s && labB c) <;> simp_all
def may3 (s c u x y z : ByteArray) (f m : Int) : Bool := (decide (y.size = 0) && (decide (z.size = 0) && (decide (f = 0) && decide (m = 0)))) && (((labB s && labB c) && labB u) && (decide (x.size ≤ 1024) && V x))
theorem intle (x : ByteArray) : decide ((x.size : Int) ≤ 1024) = decide (x.size ≤ 1024) := by
  by_cases h : x.size ≤ 1024
  · rw [decide_eq_true h]; exact decide_eq_true (by omega)
  · rw [decide_eq_false h]; exact decide_eq_false (by omega)
theorem ck3_ok (s c u x y z : ByteArray) (f m : Int) (hx : x.size ≤ 140737488355328) : FOk Tryd.prog 21 [opv 3 s c u x y z f m] [] (.int .i64 (if may3 s c u x y z f m = true then 0 else 1)) [] := by
  refine FOk.wp (ck3_wp s c u x y z f m (labB s && labB c) (labB u) (V x) ?_)
  unfold ck3_T may3
  simp only [emp1, emp2, int1, int2, beq_self_eq_true, Bool.true_and, Bool.and_true, lab2_ok s c, lab1_ok u, vld_ok x hx, intle, true_and]
  cases hz : (decide (y.size = 0) && (decide (z.size = 0) && (decide (f = 0) && decide (m = 0)))) <;> cases h0 : (labB s && labB c) <;> simp_all <;> intros <;> omega
def may4 (s c u x y z : ByteArray) (f m : Int) : Bool := (decide (u.size = 0) && (decide (x.size = 0) && (decide (y.size = 0) && decide (z.size = 0)))) && ((labB s && labB c) && (decide (0 ≤ f) && (decide (f ≤ 2147483647) && (decide (0 ≤ m) && decide (m ≤ 64)))))
theorem ck4_ok (s c u x y z : ByteArray) (f m : Int) (hx : x.size ≤ 140737488355328) : FOk Tryd.prog 21 [opv 4 s c u x y z f m] [] (.int .i64 (if may4 s c u x y z f m = true then 0 else 1)) [] := by
  refine FOk.wp (ck4_wp s c u x y z f m (labB s && labB c) true (V x) ?_)
  unfold ck4_T may4
  simp only [emp1, emp2, int1, int2, beq_self_eq_true, Bool.true_and, Bool.and_true, lab2_ok s c, true_and]
  cases hz : (decide (u.size = 0) && (decide (x.size = 0) && (decide (y.size = 0) && decide (z.size = 0)))) <;> cases h0 : (labB s && labB c) <;> simp_all <;> omega
def may7 (s c u x y z : ByteArray) (f m : Int) : Bool := (decide (s.size = 0) && (decide (c.size = 0) && (decide (x.size = 0) && (decide (y.size = 0) && (decide (z.size = 0) && (decide (f = 0) && decide (m = 0))))))) && (labB u)
theorem ck7_ok (s c u x y z : ByteArray) (f m : Int) (hx : x.size ≤ 140737488355328) : FOk Tryd.prog 21 [opv 7 s c u x y z f m] [] (.int .i64 (if may7 s c u x y z f m = true then 0 else 1)) [] := by
  refine FOk.wp (ck7_wp s c u x y z f m (labB s && labB c) (labB u) (V x) ?_)
  unfold ck7_T may7
  simp only [emp1, emp2, int1, int2, beq_self_eq_true, Bool.true_and, Bool.and_true, lab2_ok s c, lab1_ok u, true_and]
  cases hz : (decide (s.size = 0) && (decide (c.size = 0) && (decide (x.size = 0) && (decide (y.size = 0) && (decide (z.size = 0) && (decide (f = 0) && decide (m = 0))))))) <;> cases h0 : (labB s && labB c) <;> simp_all
end Go.MN
end

section
set_option linter.unusedVariables false
set_option linter.unusedSimpArgs false
set_option maxRecDepth 100000
namespace Go.MN
open Go Go.Abs Go.Proofs
theorem ck0_ok (k : Int) (s c u x y z : ByteArray) (f m : Int) (h1 : ¬ (1 ≤ k ∧ k ≤ 7)) : FOk Tryd.prog 21 [opv k s c u x y z f m] [] (.int .i64 1) [] := by
  refine FOk.wp (ck0_wp k s c u x y z f m (labB s && labB c) true true ?_)
  unfold ck0_T
  refine ⟨lab2_ok s c, ?_⟩
  refine ⟨?_, ?_, ?_, ?_, ?_, ?_, ?_, rfl, rfl⟩ <;> (simp; omega)
theorem mayOp_cases (k : Int) : k = 1 ∨ k = 2 ∨ k = 3 ∨ k = 4 ∨ k = 5 ∨ k = 6 ∨ k = 7 ∨ ¬ (1 ≤ k ∧ k ≤ 7) := by omega
end Go.MN
end

section
set_option linter.unusedVariables false
set_option maxRecDepth 100000
namespace Go.MN
open Go Go.Abs Go.Proofs
abbrev opw (k : Int) (s c u x y z : ByteArray) (f m : Int) : AVal := .agg [.int .i64 k, .str s, .str c, .str u, .str x, .str y, .str z, .int .i64 f, .int .i64 m]
abbrev w0 : ByteArray := ⟨#[]⟩
abbrev ky (s c : ByteArray) : AVal := .agg [.str s, .str c]
abbrev gm (u : ByteArray) : AVal × AVal := (.str u, .tt true)
abbrev nilps : AVal := .fsl true 2 [] none
abbrev rep (e a : Int) (v : AVal) : AVal := .agg [.int .i64 e, .int .i64 a, v]
abbrev Ents := List (AVal × AVal)
abbrev H3 (pre : Ents) (off : Ents) : AState := [.rows false 2 [[.map 1, .map 2]], .mq pre [] [], .mp true off]
abbrev H6 (pre post : Ents) (s c : ByteArray) (off mem : Ents) (b : Bool) (ps : List (List AVal)) : AState := [.rows false 2 [[.map 1, .map 2]], .mq pre [(ky s c, .ptr 3 2 0 0)] post, .mp true off, .rows false 2 [[.map 4, .slc b 5 2 0 ps.length none]], .mp true mem, .rows true 2 ps]
abbrev W6 (pre post : Ents) (s c : ByteArray) (off mem : Ents) (b : Bool) (ps : List (List AVal)) : AState := [.rows false 2 [[.map 2, .map 3]], .rows false 2 [[.map 4, .slc b 5 2 0 ps.length none]], .mq pre [(ky s c, .ptr 1 2 0 0)] post, .mp true off, .mp true mem, .rows true 2 ps]
end Go.MN
end

section
set_option linter.unusedVariables false
set_option maxRecDepth 100000
namespace Go.MN
open Go Go.Abs Go.Proofs
abbrev iqPB : Int → AVal := AVal.int IntKind.i64
theorem no__1 (e : Int) :
    FOk Tryd.prog 28 ([iqPB e]) ([]) (AVal.agg [iqPB e, iqPB 0, AVal.fsl true 2 [] none]) ([]) :=
  (evalF_ok followed Tryd.func28 (by kernel_rfl) (show evalF Tryd.prog Tryd.f28 ([iqPB e]) ([]) ([]) = .ok (FRes.mk (AVal.agg [iqPB e, iqPB 0, AVal.fsl true 2 [] none]) ([AObj.rows false 3 [[iqPB e, iqPB 0, AVal.fsl true 0 [] (some 0)]]]) (tr 4 ++ [])) by kernel_rfl) (allP_of (trC 4 trivial))).move ([]) (by kernel_rfl) (by kernel_rfl) (by kernel_rfl)

def no__T (e : Int) (Q : AVal → AState → Prop) : Prop := Q (AVal.agg [AVal.int IntKind.i64 e, AVal.int IntKind.i64 0, AVal.fsl true 2 [] none]) ([])
theorem no__wp (e : Int) {Q : AVal → AState → Prop} (h : no__T e Q) : ∃ r σ', FOk Tryd.prog 28 ([iqPB e]) ([]) r σ' ∧ Q r σ' :=
  ⟨_, _, no__1 e, h⟩


theorem gv3_1 (pre : Ents) (off : Ents) :
    FOk Tryd.prog 27 ([AVal.ptr 0 2 0 0]) (H3 pre off) (AVal.bool true) ([AObj.rows false 2 [[AVal.map 1, AVal.map 2]], AObj.mq pre [] [], AObj.mp true off]) :=
  (evalF_ok followed Tryd.func27 (by kernel_rfl) (show evalF Tryd.prog Tryd.f27 ([AVal.ptr 0 2 0 0]) (H3 pre off) ([Dec.br true]) = .ok (FRes.mk (AVal.bool true) ([AObj.rows false 2 [[AVal.map 1, AVal.map 2]], AObj.mq pre [] [], AObj.mp true off]) (tr 3 ++ [])) by kernel_rfl) (allP_of (trC 3 trivial))).move ([0, 1, 2]) (by kernel_rfl) (by kernel_rfl) (by kernel_rfl)

def gv3_T (pre : Ents) (off : Ents) (Q : AVal → AState → Prop) : Prop := Q (AVal.bool true) ([AObj.rows false 2 [[AVal.map 1, AVal.map 2]], AObj.mq pre [] [], AObj.mp true off])
theorem gv3_wp (pre : Ents) (off : Ents) {Q : AVal → AState → Prop} (h : gv3_T pre off Q) : ∃ r σ', FOk Tryd.prog 27 ([AVal.ptr 0 2 0 0]) (H3 pre off) r σ' ∧ Q r σ' :=
  ⟨_, _, gv3_1 pre off, h⟩


theorem gv6_1 (pre : Ents) (post : Ents) (s : ByteArray) (c : ByteArray) (off : Ents) (mem : Ents) (b : Bool) (ps : List (List AVal)) :
    FOk Tryd.prog 27 ([AVal.ptr 0 2 0 0]) (H6 pre post s c off mem b ps) (AVal.bool true) ([AObj.rows false 2 [[AVal.map 1, AVal.map 2]], AObj.mq pre [(AVal.agg [AVal.str s, AVal.str c], AVal.ptr 3 2 0 0)] post, AObj.mp true off, AObj.rows false 2 [[AVal.map 4, AVal.slc b 5 2 0 (List.length ps) none]], AObj.mp true mem, AObj.rows true 2 ps]) :=
  (evalF_ok followed Tryd.func27 (by kernel_rfl) (show evalF Tryd.prog Tryd.f27 ([AVal.ptr 0 2 0 0]) (H6 pre post s c off mem b ps) ([Dec.br true]) = .ok (FRes.mk (AVal.bool true) ([AObj.rows false 2 [[AVal.map 1, AVal.map 2]], AObj.mq pre [(AVal.agg [AVal.str s, AVal.str c], AVal.ptr 3 2 0 0)] post, AObj.mp true off, AObj.rows false 2 [[AVal.map 4, AVal.slc b 5 2 0 (List.length ps) none]], AObj.mp true mem, AObj.rows true 2 ps]) (tr 3 ++ [])) by kernel_rfl) (allP_of (trC 3 trivial))).move ([0, 1, 2, 3, 4, 5]) (by kernel_rfl) (by kernel_rfl) (by kernel_rfl)

def gv6_T (pre : Ents) (post : Ents) (s : ByteArray) (c : ByteArray) (off : Ents) (mem : Ents) (b : Bool) (ps : List (List AVal)) (Q : AVal → AState → Prop) : Prop := Q (AVal.bool true) ([AObj.rows false 2 [[AVal.map 1, AVal.map 2]], AObj.mq pre [(AVal.agg [AVal.str s, AVal.str c], AVal.ptr 3 2 0 0)] post, AObj.mp true off, AObj.rows false 2 [[AVal.map 4, AVal.slc b 5 2 0 (List.length ps) none]], AObj.mp true mem, AObj.rows true 2 ps])
theorem gv6_wp (pre : Ents) (post : Ents) (s : ByteArray) (c : ByteArray) (off : Ents) (mem : Ents) (b : Bool) (ps : List (List AVal)) {Q : AVal → AState → Prop} (h : gv6_T pre post s c off mem b ps Q) : ∃ r σ', FOk Tryd.prog 27 ([AVal.ptr 0 2 0 0]) (H6 pre post s c off mem b ps) r σ' ∧ Q r σ' :=
  ⟨_, _, gv6_1 pre post s c off mem b ps, h⟩


theorem new__1 :
    FOk Tryd.prog 12 ([]) ([]) (AVal.ptr 0 2 0 0) ([AObj.rows false 2 [[AVal.map 1, AVal.map 2]], AObj.mp false [], AObj.mp true []]) :=
  (evalF_ok followed Tryd.func12 (by kernel_rfl) (show evalF Tryd.prog Tryd.f12 ([]) ([]) ([]) = .ok (FRes.mk (AVal.ptr 2 2 0 0) ([AObj.mp false [], AObj.mp true [], AObj.rows false 2 [[AVal.map 0, AVal.map 1]]]) []) by kernel_rfl) (allP_of trivial)).move ([2, 0, 1]) (by kernel_rfl) (by kernel_rfl) (by kernel_rfl)

def new__T (Q : AVal → AState → Prop) : Prop := Q (AVal.ptr 0 2 0 0) ([AObj.rows false 2 [[AVal.map 1, AVal.map 2]], AObj.mp false [], AObj.mp true []])
theorem new__wp {Q : AVal → AState → Prop} (h : new__T Q) : ∃ r σ', FOk Tryd.prog 12 ([]) ([]) r σ' ∧ Q r σ' :=
  ⟨_, _, new__1, h⟩


theorem cl_1 (o : Nat) (n : Nat) (ps : List (List AVal))
    (h1 : decide ((0 + List.length (List.take n (List.drop o ps))) * 32 ≤ 140737488355328 ∧ 0 + List.length (List.take n (List.drop o ps)) ≤ 9223372036854775807) = true)
    (h2 : decide (o + n ≤ List.length ps) = true)
    (h3 : (List.all (List.take n (List.drop o ps)) fun r => List.all r oneCell) = true) :
    FOk Tryd.prog 45 ([AVal.slc false 0 2 o n none]) ([AObj.rows true 2 ps]) (AVal.slc false 1 2 0 (0 + List.length (List.take n (List.drop o ps))) none) ([AObj.rows true 2 ps, AObj.rows true 2 ([] ++ List.take n (List.drop o ps))]) :=
  (evalF_ok followed Tryd.func45 (by kernel_rfl) (show evalF Tryd.prog Tryd.f45 ([AVal.slc false 0 2 o n none]) ([AObj.rows true 2 ps]) ([Dec.br false]) = .ok (FRes.mk (AVal.slc false 2 2 0 (0 + List.length (List.take n (List.drop o ps))) none) ([AObj.rows true 2 ps, AObj.dead, AObj.rows true 2 ([] ++ List.take n (List.drop o ps))]) (tr 1 ++ ((decide ((0 + List.length (List.take n (List.drop o ps))) * 32 ≤ 140737488355328 ∧ 0 + List.length (List.take n (List.drop o ps)) ≤ 9223372036854775807) = true) :: ((decide (o + n ≤ List.length ps) = true) :: (((List.all (List.take n (List.drop o ps)) fun r => List.all r oneCell) = true) :: ((false = false) :: [])))))) by kernel_rfl) (allP_of (trC 1 ⟨h1, ⟨h2, ⟨h3, ⟨rfl, trivial⟩⟩⟩⟩))).move ([0, 2]) (by kernel_rfl) (by kernel_rfl) (by kernel_rfl)

def cl_T (o : Nat) (n : Nat) (ps : List (List AVal)) (Q : AVal → AState → Prop) : Prop := ((List.all (List.take n (List.drop o ps)) fun r => List.all r oneCell) = true) ∧ (decide (o + n ≤ List.length ps) = true) ∧ (decide ((0 + List.length (List.take n (List.drop o ps))) * 32 ≤ 140737488355328 ∧ 0 + List.length (List.take n (List.drop o ps)) ≤ 9223372036854775807) = true) ∧ Q (AVal.slc false 1 2 0 (0 + List.length (List.take n (List.drop o ps))) none) ([AObj.rows true 2 ps, AObj.rows true 2 ([] ++ List.take n (List.drop o ps))])
theorem cl_wp (o : Nat) (n : Nat) (ps : List (List AVal)) {Q : AVal → AState → Prop} (h : cl_T o n ps Q) : ∃ r σ', FOk Tryd.prog 45 ([AVal.slc false 0 2 o n none]) ([AObj.rows true 2 ps]) r σ' ∧ Q r σ' :=
  ⟨_, _, cl_1 o n ps (h.2.2.1) (h.2.1) (h.1), h.2.2.2⟩


theorem clE_1 (o : Nat) (n : Nat) (ps : List (List AVal)) :
    FOk Tryd.prog 45 ([AVal.slc true 0 2 o n none]) ([AObj.rows true 2 ps]) (AVal.fsl true 2 [] none) ([AObj.rows true 2 ps]) :=
  (evalF_ok followed Tryd.func45 (by kernel_rfl) (show evalF Tryd.prog Tryd.f45 ([AVal.slc true 0 2 o n none]) ([AObj.rows true 2 ps]) ([Dec.br true]) = .ok (FRes.mk (AVal.fsl true 2 [] none) ([AObj.rows true 2 ps]) (tr 1 ++ [])) by kernel_rfl) (allP_of (trC 1 trivial))).move ([0]) (by kernel_rfl) (by kernel_rfl) (by kernel_rfl)

def clE_T (o : Nat) (n : Nat) (ps : List (List AVal)) (Q : AVal → AState → Prop) : Prop := Q (AVal.fsl true 2 [] none) ([AObj.rows true 2 ps])
theorem clE_wp (o : Nat) (n : Nat) (ps : List (List AVal)) {Q : AVal → AState → Prop} (h : clE_T o n ps Q) : ∃ r σ', FOk Tryd.prog 45 ([AVal.slc true 0 2 o n none]) ([AObj.rows true 2 ps]) r σ' ∧ Q r σ' :=
  ⟨_, _, clE_1 o n ps, h⟩


end Go.MN
end

section
set_option linter.unusedVariables false
set_option maxRecDepth 100000
namespace Go.MN
open Go Go.Abs Go.Proofs
theorem no_ok (e : Int) : FOk Tryd.prog 28 [.int .i64 e] [] (rep e 0 nilps) [] := FOk.wp (no__wp e ⟨rfl, rfl⟩)
theorem given3 (pre off : Ents) : FOk Tryd.prog 27 [.ptr 0 2 0 0] (H3 pre off) (.bool true) (H3 pre off) := FOk.wp (gv3_wp pre off ⟨rfl, rfl⟩)
theorem given6 (pre post : Ents) (s c : ByteArray) (off mem : Ents) (b : Bool) (ps : List (List AVal)) : FOk Tryd.prog 27 [.ptr 0 2 0 0] (H6 pre post s c off mem b ps) (.bool true) (H6 pre post s c off mem b ps) := FOk.wp (gv6_wp pre post s c off mem b ps ⟨rfl, rfl⟩)
end Go.MN
end

section
set_option linter.unusedVariables false
set_option maxRecDepth 100000
namespace Go.MN
open Go Go.Abs Go.Proofs
noncomputable abbrev lk4 (u : ByteArray) (off : Ents) : AVal := (if false = true then AVal.tuple [asType Tryd.prog 4 (reifyL [Kind.bool] (AVal.cells (Option.getD (afind (AVal.str u) off) (AVal.tt false)))), AVal.tt (Option.isSome (afind (AVal.str u) off))] else asType Tryd.prog 4 (reifyL [Kind.bool] (AVal.cells (Option.getD (afind (AVal.str u) off) (AVal.tt false)))))
abbrev iqPD : Int → AVal := AVal.int IntKind.i64
theorem wJ_1 (pre : Ents) (post : Ents) (s : ByteArray) (c : ByteArray) (u : ByteArray) (off : Ents) (mem : Ents) (b : Bool) (ps : List (List AVal)) (o : Bool) (j : Bool)
    (h1 : o = true)
    (h2 : (lk4 u off) = AVal.bool o)
    (h3 : okCells Tryd.prog 4 (Option.getD (afind (AVal.str u) off) (AVal.tt false)) = true)
    (h4 : (List.all off fun p => keyKind Tryd.prog 9 (Prod.fst p)) = true) :
    FOk Tryd.prog 31 ([AVal.ptr 0 2 0 0, ky s c, AVal.ptr 1 2 0 0, opw 2 s c u w0 w0 w0 0 0]) (W6 pre post s c off mem b ps) (AVal.agg [iqPD 92, iqPD 0, AVal.fsl true 2 [] none]) ((W6 pre post s c off mem b ps)) :=
  (evalF_ok followed Tryd.func31 (by kernel_rfl) (show evalF Tryd.prog Tryd.f31 ([AVal.ptr 0 2 0 0, ky s c, AVal.ptr 1 2 0 0, opw 2 s c u w0 w0 w0 0 0]) (W6 pre post s c off mem b ps) ([Dec.br false, Dec.br false, Dec.rw (AVal.bool o), Dec.br true, Dec.use [] [iqPD 92] [] (AVal.agg [iqPD 92, iqPD 0, AVal.fsl true 2 [] none]) []]) = .ok (FRes.mk (AVal.agg [iqPD 92, iqPD 0, AVal.fsl true 2 [] none]) ([AObj.rows false 2 [[AVal.map 2, AVal.map 3]], AObj.rows false 2 [[AVal.map 4, AVal.slc b 5 2 0 (List.length ps) none]], AObj.mq pre [(AVal.agg [AVal.str s, AVal.str c], AVal.ptr 1 2 0 0)] post, AObj.mp true off, AObj.mp true mem, AObj.rows true 2 ps, AObj.rows true 2 [[AVal.str s, AVal.str c]], AObj.rows true 9 [[iqPD 2, AVal.str s, AVal.str c, AVal.str u, AVal.str w0, AVal.str w0, AVal.str w0, iqPD 0, iqPD 0]], AObj.rows false 3 [[iqPD 92, iqPD 0, AVal.fsl true 2 [] none]]]) (tr 4 ++ ((Owed.use (owed Tryd.prog 6) 28 [] [iqPD 92] [AObj.rows false 2 [[AVal.map 2, AVal.map 3]], AObj.rows false 2 [[AVal.map 4, AVal.slc b 5 2 0 (List.length ps) none]], AObj.mq pre [(AVal.agg [AVal.str s, AVal.str c], AVal.ptr 1 2 0 0)] post, AObj.mp true off, AObj.mp true mem, AObj.rows true 2 ps, AObj.rows true 2 [[AVal.str s, AVal.str c]], AObj.rows true 9 [[iqPD 2, AVal.str s, AVal.str c, AVal.str u, AVal.str w0, AVal.str w0, AVal.str w0, iqPD 0, iqPD 0]], AObj.rows false 3 [[iqPD 0, iqPD 0, AVal.fsl true 0 [] (some 0)]]] [iqPD 92] [] (AVal.agg [iqPD 92, iqPD 0, AVal.fsl true 2 [] none]) []) :: ((o = true) :: (tr 4 ++ (((lk4 u off) = AVal.bool o) :: ((okCells Tryd.prog 4 (Option.getD (afind (AVal.str u) off) (AVal.tt false)) = true) :: (((List.all off fun p => keyKind Tryd.prog 9 (Prod.fst p)) = true) :: (tr 22 ++ ((false = false) :: ((false = false) :: (tr 3 ++ [])))))))))))) by kernel_rfl) (allP_of (trC 4 ⟨⟨(@Go.MN.no_ok (92)), rfl, rfl, rfl⟩, ⟨h1, (trC 4 ⟨h2, ⟨h3, ⟨h4, (trC 22 ⟨rfl, ⟨rfl, (trC 3 trivial)⟩⟩)⟩⟩⟩)⟩⟩))).move ([0, 1, 2, 3, 4, 5]) (by kernel_rfl) (by kernel_rfl) (by kernel_rfl)

theorem wJ_2 (pre : Ents) (post : Ents) (s : ByteArray) (c : ByteArray) (u : ByteArray) (off : Ents) (mem : Ents) (b : Bool) (ps : List (List AVal)) (o : Bool) (j : Bool)
    (h1 : j = true)
    (h2 : (lk4 u mem) = AVal.bool j)
    (h3 : okCells Tryd.prog 4 (Option.getD (afind (AVal.str u) mem) (AVal.tt false)) = true)
    (h4 : (List.all mem fun p => keyKind Tryd.prog 9 (Prod.fst p)) = true)
    (h5 : o = false)
    (h6 : (lk4 u off) = AVal.bool o)
    (h7 : okCells Tryd.prog 4 (Option.getD (afind (AVal.str u) off) (AVal.tt false)) = true)
    (h8 : (List.all off fun p => keyKind Tryd.prog 9 (Prod.fst p)) = true) :
    FOk Tryd.prog 31 ([AVal.ptr 0 2 0 0, ky s c, AVal.ptr 1 2 0 0, opw 2 s c u w0 w0 w0 0 0]) (W6 pre post s c off mem b ps) (AVal.agg [iqPD 90, iqPD 0, AVal.fsl true 2 [] none]) ((W6 pre post s c off mem b ps)) :=
  (evalF_ok followed Tryd.func31 (by kernel_rfl) (show evalF Tryd.prog Tryd.f31 ([AVal.ptr 0 2 0 0, ky s c, AVal.ptr 1 2 0 0, opw 2 s c u w0 w0 w0 0 0]) (W6 pre post s c off mem b ps) ([Dec.br false, Dec.br false, Dec.rw (AVal.bool o), Dec.br false, Dec.br true, Dec.rw (AVal.bool j), Dec.br true, Dec.use [] [iqPD 90] [] (AVal.agg [iqPD 90, iqPD 0, AVal.fsl true 2 [] none]) []]) = .ok (FRes.mk (AVal.agg [iqPD 90, iqPD 0, AVal.fsl true 2 [] none]) ([AObj.rows false 2 [[AVal.map 2, AVal.map 3]], AObj.rows false 2 [[AVal.map 4, AVal.slc b 5 2 0 (List.length ps) none]], AObj.mq pre [(AVal.agg [AVal.str s, AVal.str c], AVal.ptr 1 2 0 0)] post, AObj.mp true off, AObj.mp true mem, AObj.rows true 2 ps, AObj.rows true 2 [[AVal.str s, AVal.str c]], AObj.rows true 9 [[iqPD 2, AVal.str s, AVal.str c, AVal.str u, AVal.str w0, AVal.str w0, AVal.str w0, iqPD 0, iqPD 0]], AObj.rows false 3 [[iqPD 90, iqPD 0, AVal.fsl true 2 [] none]]]) (tr 4 ++ ((Owed.use (owed Tryd.prog 6) 28 [] [iqPD 90] [AObj.rows false 2 [[AVal.map 2, AVal.map 3]], AObj.rows false 2 [[AVal.map 4, AVal.slc b 5 2 0 (List.length ps) none]], AObj.mq pre [(AVal.agg [AVal.str s, AVal.str c], AVal.ptr 1 2 0 0)] post, AObj.mp true off, AObj.mp true mem, AObj.rows true 2 ps, AObj.rows true 2 [[AVal.str s, AVal.str c]], AObj.rows true 9 [[iqPD 2, AVal.str s, AVal.str c, AVal.str u, AVal.str w0, AVal.str w0, AVal.str w0, iqPD 0, iqPD 0]], AObj.rows false 3 [[iqPD 0, iqPD 0, AVal.fsl true 0 [] (some 0)]]] [iqPD 90] [] (AVal.agg [iqPD 90, iqPD 0, AVal.fsl true 2 [] none]) []) :: ((j = true) :: (tr 6 ++ (((lk4 u mem) = AVal.bool j) :: ((okCells Tryd.prog 4 (Option.getD (afind (AVal.str u) mem) (AVal.tt false)) = true) :: (((List.all mem fun p => keyKind Tryd.prog 9 (Prod.fst p)) = true) :: (tr 34 ++ ((o = false) :: (tr 4 ++ (((lk4 u off) = AVal.bool o) :: ((okCells Tryd.prog 4 (Option.getD (afind (AVal.str u) off) (AVal.tt false)) = true) :: (((List.all off fun p => keyKind Tryd.prog 9 (Prod.fst p)) = true) :: (tr 22 ++ ((false = false) :: ((false = false) :: (tr 3 ++ [])))))))))))))))))) by kernel_rfl) (allP_of (trC 4 ⟨⟨(@Go.MN.no_ok (90)), rfl, rfl, rfl⟩, ⟨h1, (trC 6 ⟨h2, ⟨h3, ⟨h4, (trC 34 ⟨h5, (trC 4 ⟨h6, ⟨h7, ⟨h8, (trC 22 ⟨rfl, ⟨rfl, (trC 3 trivial)⟩⟩)⟩⟩⟩)⟩)⟩⟩⟩)⟩⟩))).move ([0, 1, 2, 3, 4, 5]) (by kernel_rfl) (by kernel_rfl) (by kernel_rfl)

theorem wJ_3 (pre : Ents) (post : Ents) (s : ByteArray) (c : ByteArray) (u : ByteArray) (off : Ents) (mem : Ents) (b : Bool) (ps : List (List AVal)) (o : Bool) (j : Bool)
    (h1 : (List.all mem fun p => keyKind Tryd.prog 9 (Prod.fst p)) = true)
    (h2 : j = false)
    (h3 : (lk4 u mem) = AVal.bool j)
    (h4 : okCells Tryd.prog 4 (Option.getD (afind (AVal.str u) mem) (AVal.tt false)) = true)
    (h5 : o = false)
    (h6 : (lk4 u off) = AVal.bool o)
    (h7 : okCells Tryd.prog 4 (Option.getD (afind (AVal.str u) off) (AVal.tt false)) = true)
    (h8 : (List.all off fun p => keyKind Tryd.prog 9 (Prod.fst p)) = true) :
    FOk Tryd.prog 31 ([AVal.ptr 0 2 0 0, ky s c, AVal.ptr 1 2 0 0, opw 2 s c u w0 w0 w0 0 0]) (W6 pre post s c off mem b ps) (AVal.agg [iqPD 0, iqPD 0, AVal.fsl true 2 [] none]) ([AObj.rows false 2 [[AVal.map 2, AVal.map 3]], AObj.rows false 2 [[AVal.map 4, AVal.slc b 5 2 0 (List.length ps) none]], AObj.mq pre [(AVal.agg [AVal.str s, AVal.str c], AVal.ptr 1 2 0 0)] post, AObj.mp true off, AObj.mp true (aput (AVal.str u) (AVal.tt true) mem), AObj.rows true 2 ps]) :=
  (evalF_ok followed Tryd.func31 (by kernel_rfl) (show evalF Tryd.prog Tryd.f31 ([AVal.ptr 0 2 0 0, ky s c, AVal.ptr 1 2 0 0, opw 2 s c u w0 w0 w0 0 0]) (W6 pre post s c off mem b ps) ([Dec.br false, Dec.br false, Dec.rw (AVal.bool o), Dec.br false, Dec.br true, Dec.rw (AVal.bool j), Dec.br false, Dec.br true]) = .ok (FRes.mk (AVal.agg [iqPD 0, iqPD 0, AVal.fsl true 2 [] none]) ([AObj.rows false 2 [[AVal.map 2, AVal.map 3]], AObj.rows false 2 [[AVal.map 4, AVal.slc b 5 2 0 (List.length ps) none]], AObj.mq pre [(AVal.agg [AVal.str s, AVal.str c], AVal.ptr 1 2 0 0)] post, AObj.mp true off, AObj.mp true (aput (AVal.str u) (AVal.tt true) mem), AObj.rows true 2 ps, AObj.rows true 2 [[AVal.str s, AVal.str c]], AObj.rows true 9 [[iqPD 2, AVal.str s, AVal.str c, AVal.str u, AVal.str w0, AVal.str w0, AVal.str w0, iqPD 0, iqPD 0]], AObj.rows false 3 [[iqPD 0, iqPD 0, AVal.fsl true 0 [] (some 0)]]]) (tr 6 ++ (((List.all mem fun p => keyKind Tryd.prog 9 (Prod.fst p)) = true) :: (tr 26 ++ ((j = false) :: (tr 6 ++ (((lk4 u mem) = AVal.bool j) :: ((okCells Tryd.prog 4 (Option.getD (afind (AVal.str u) mem) (AVal.tt false)) = true) :: (((List.all mem fun p => keyKind Tryd.prog 9 (Prod.fst p)) = true) :: (tr 34 ++ ((o = false) :: (tr 4 ++ (((lk4 u off) = AVal.bool o) :: ((okCells Tryd.prog 4 (Option.getD (afind (AVal.str u) off) (AVal.tt false)) = true) :: (((List.all off fun p => keyKind Tryd.prog 9 (Prod.fst p)) = true) :: (tr 22 ++ ((false = false) :: ((false = false) :: (tr 3 ++ []))))))))))))))))))) by kernel_rfl) (allP_of (trC 6 ⟨h1, (trC 26 ⟨h2, (trC 6 ⟨h3, ⟨h4, ⟨h1, (trC 34 ⟨h5, (trC 4 ⟨h6, ⟨h7, ⟨h8, (trC 22 ⟨rfl, ⟨rfl, (trC 3 trivial)⟩⟩)⟩⟩⟩)⟩)⟩⟩⟩)⟩)⟩))).move ([0, 1, 2, 3, 4, 5]) (by kernel_rfl) (by kernel_rfl) (by kernel_rfl)

def wJ_T (pre : Ents) (post : Ents) (s : ByteArray) (c : ByteArray) (u : ByteArray) (off : Ents) (mem : Ents) (b : Bool) (ps : List (List AVal)) (o : Bool) (j : Bool) (Q : AVal → AState → Prop) : Prop := ((List.all off fun p => keyKind Tryd.prog 9 (Prod.fst p)) = true) ∧ (okCells Tryd.prog 4 (Option.getD (afind (AVal.str u) off) (AVal.tt false)) = true) ∧ ((if false = true then AVal.tuple [asType Tryd.prog 4 (reifyL [Kind.bool] (AVal.cells (Option.getD (afind (AVal.str u) off) (AVal.tt false)))), AVal.tt (Option.isSome (afind (AVal.str u) off))] else asType Tryd.prog 4 (reifyL [Kind.bool] (AVal.cells (Option.getD (afind (AVal.str u) off) (AVal.tt false))))) = AVal.bool o) ∧ ((o = true) → Q (AVal.agg [AVal.int IntKind.i64 92, AVal.int IntKind.i64 0, AVal.fsl true 2 [] none]) ([AObj.rows false 2 [[AVal.map 2, AVal.map 3]], AObj.rows false 2 [[AVal.map 4, AVal.slc b 5 2 0 (List.length ps) none]], AObj.mq pre [(AVal.agg [AVal.str s, AVal.str c], AVal.ptr 1 2 0 0)] post, AObj.mp true off, AObj.mp true mem, AObj.rows true 2 ps])) ∧ ((o = false) → ((List.all mem fun p => keyKind Tryd.prog 9 (Prod.fst p)) = true) ∧ (okCells Tryd.prog 4 (Option.getD (afind (AVal.str u) mem) (AVal.tt false)) = true) ∧ ((if false = true then AVal.tuple [asType Tryd.prog 4 (reifyL [Kind.bool] (AVal.cells (Option.getD (afind (AVal.str u) mem) (AVal.tt false)))), AVal.tt (Option.isSome (afind (AVal.str u) mem))] else asType Tryd.prog 4 (reifyL [Kind.bool] (AVal.cells (Option.getD (afind (AVal.str u) mem) (AVal.tt false))))) = AVal.bool j) ∧ ((j = true) → Q (AVal.agg [AVal.int IntKind.i64 90, AVal.int IntKind.i64 0, AVal.fsl true 2 [] none]) ([AObj.rows false 2 [[AVal.map 2, AVal.map 3]], AObj.rows false 2 [[AVal.map 4, AVal.slc b 5 2 0 (List.length ps) none]], AObj.mq pre [(AVal.agg [AVal.str s, AVal.str c], AVal.ptr 1 2 0 0)] post, AObj.mp true off, AObj.mp true mem, AObj.rows true 2 ps])) ∧ ((j = false) → Q (AVal.agg [AVal.int IntKind.i64 0, AVal.int IntKind.i64 0, AVal.fsl true 2 [] none]) ([AObj.rows false 2 [[AVal.map 2, AVal.map 3]], AObj.rows false 2 [[AVal.map 4, AVal.slc b 5 2 0 (List.length ps) none]], AObj.mq pre [(AVal.agg [AVal.str s, AVal.str c], AVal.ptr 1 2 0 0)] post, AObj.mp true off, AObj.mp true (aput (AVal.str u) (AVal.tt true) mem), AObj.rows true 2 ps])))
theorem wJ_wp (pre : Ents) (post : Ents) (s : ByteArray) (c : ByteArray) (u : ByteArray) (off : Ents) (mem : Ents) (b : Bool) (ps : List (List AVal)) (o : Bool) (j : Bool) {Q : AVal → AState → Prop} (h : wJ_T pre post s c u off mem b ps o j Q) : ∃ r σ', FOk Tryd.prog 31 ([AVal.ptr 0 2 0 0, ky s c, AVal.ptr 1 2 0 0, opw 2 s c u w0 w0 w0 0 0]) (W6 pre post s c off mem b ps) r σ' ∧ Q r σ' :=
  brE (fun (c0 : o = true) => ⟨_, _, wJ_1 pre post s c u off mem b ps o j (c0) (h.2.2.1) (h.2.1) (h.1), (h.2.2.2.1 c0)⟩) (fun (c0 : o = false) => brE (fun (c1 : j = true) => ⟨_, _, wJ_2 pre post s c u off mem b ps o j (c1) ((h.2.2.2.2 c0).2.2.1) ((h.2.2.2.2 c0).2.1) ((h.2.2.2.2 c0).1) (c0) (h.2.2.1) (h.2.1) (h.1), ((h.2.2.2.2 c0).2.2.2.1 c1)⟩) (fun (c1 : j = false) => ⟨_, _, wJ_3 pre post s c u off mem b ps o j ((h.2.2.2.2 c0).1) (c1) ((h.2.2.2.2 c0).2.2.1) ((h.2.2.2.2 c0).2.1) (c0) (h.2.2.1) (h.2.1) (h.1), ((h.2.2.2.2 c0).2.2.2.2 c1)⟩))


theorem wP_1 (pre : Ents) (post : Ents) (s : ByteArray) (c : ByteArray) (u : ByteArray) (x : ByteArray) (off : Ents) (mem : Ents) (b : Bool) (ps : List (List AVal)) (o : Bool) (j : Bool)
    (h1 : o = true)
    (h2 : (lk4 u off) = AVal.bool o)
    (h3 : okCells Tryd.prog 4 (Option.getD (afind (AVal.str u) off) (AVal.tt false)) = true)
    (h4 : (List.all off fun p => keyKind Tryd.prog 9 (Prod.fst p)) = true) :
    FOk Tryd.prog 31 ([AVal.ptr 0 2 0 0, ky s c, AVal.ptr 1 2 0 0, opw 3 s c u x w0 w0 0 0]) (W6 pre post s c off mem b ps) (AVal.agg [iqPD 92, iqPD 0, AVal.fsl true 2 [] none]) ((W6 pre post s c off mem b ps)) :=
  (evalF_ok followed Tryd.func31 (by kernel_rfl) (show evalF Tryd.prog Tryd.f31 ([AVal.ptr 0 2 0 0, ky s c, AVal.ptr 1 2 0 0, opw 3 s c u x w0 w0 0 0]) (W6 pre post s c off mem b ps) ([Dec.br false, Dec.br false, Dec.rw (AVal.bool o), Dec.br true, Dec.use [] [iqPD 92] [] (AVal.agg [iqPD 92, iqPD 0, AVal.fsl true 2 [] none]) []]) = .ok (FRes.mk (AVal.agg [iqPD 92, iqPD 0, AVal.fsl true 2 [] none]) ([AObj.rows false 2 [[AVal.map 2, AVal.map 3]], AObj.rows false 2 [[AVal.map 4, AVal.slc b 5 2 0 (List.length ps) none]], AObj.mq pre [(AVal.agg [AVal.str s, AVal.str c], AVal.ptr 1 2 0 0)] post, AObj.mp true off, AObj.mp true mem, AObj.rows true 2 ps, AObj.rows true 2 [[AVal.str s, AVal.str c]], AObj.rows true 9 [[iqPD 3, AVal.str s, AVal.str c, AVal.str u, AVal.str x, AVal.str w0, AVal.str w0, iqPD 0, iqPD 0]], AObj.rows false 3 [[iqPD 92, iqPD 0, AVal.fsl true 2 [] none]]]) (tr 4 ++ ((Owed.use (owed Tryd.prog 6) 28 [] [iqPD 92] [AObj.rows false 2 [[AVal.map 2, AVal.map 3]], AObj.rows false 2 [[AVal.map 4, AVal.slc b 5 2 0 (List.length ps) none]], AObj.mq pre [(AVal.agg [AVal.str s, AVal.str c], AVal.ptr 1 2 0 0)] post, AObj.mp true off, AObj.mp true mem, AObj.rows true 2 ps, AObj.rows true 2 [[AVal.str s, AVal.str c]], AObj.rows true 9 [[iqPD 3, AVal.str s, AVal.str c, AVal.str u, AVal.str x, AVal.str w0, AVal.str w0, iqPD 0, iqPD 0]], AObj.rows false 3 [[iqPD 0, iqPD 0, AVal.fsl true 0 [] (some 0)]]] [iqPD 92] [] (AVal.agg [iqPD 92, iqPD 0, AVal.fsl true 2 [] none]) []) :: ((o = true) :: (tr 4 ++ (((lk4 u off) = AVal.bool o) :: ((okCells Tryd.prog 4 (Option.getD (afind (AVal.str u) off) (AVal.tt false)) = true) :: (((List.all off fun p => keyKind Tryd.prog 9 (Prod.fst p)) = true) :: (tr 22 ++ ((false = false) :: ((false = false) :: (tr 3 ++ [])))))))))))) by kernel_rfl) (allP_of (trC 4 ⟨⟨(@Go.MN.no_ok (92)), rfl, rfl, rfl⟩, ⟨h1, (trC 4 ⟨h2, ⟨h3, ⟨h4, (trC 22 ⟨rfl, ⟨rfl, (trC 3 trivial)⟩⟩)⟩⟩⟩)⟩⟩))).move ([0, 1, 2, 3, 4, 5]) (by kernel_rfl) (by kernel_rfl) (by kernel_rfl)

theorem wP_2 (pre : Ents) (post : Ents) (s : ByteArray) (c : ByteArray) (u : ByteArray) (x : ByteArray) (off : Ents) (mem : Ents) (b : Bool) (ps : List (List AVal)) (o : Bool) (j : Bool)
    (h1 : (!j) = true)
    (h2 : (lk4 u mem) = AVal.bool j)
    (h3 : okCells Tryd.prog 4 (Option.getD (afind (AVal.str u) mem) (AVal.tt false)) = true)
    (h4 : (List.all mem fun p => keyKind Tryd.prog 9 (Prod.fst p)) = true)
    (h5 : o = false)
    (h6 : (lk4 u off) = AVal.bool o)
    (h7 : okCells Tryd.prog 4 (Option.getD (afind (AVal.str u) off) (AVal.tt false)) = true)
    (h8 : (List.all off fun p => keyKind Tryd.prog 9 (Prod.fst p)) = true) :
    FOk Tryd.prog 31 ([AVal.ptr 0 2 0 0, ky s c, AVal.ptr 1 2 0 0, opw 3 s c u x w0 w0 0 0]) (W6 pre post s c off mem b ps) (AVal.agg [iqPD 91, iqPD 0, AVal.fsl true 2 [] none]) ((W6 pre post s c off mem b ps)) :=
  (evalF_ok followed Tryd.func31 (by kernel_rfl) (show evalF Tryd.prog Tryd.f31 ([AVal.ptr 0 2 0 0, ky s c, AVal.ptr 1 2 0 0, opw 3 s c u x w0 w0 0 0]) (W6 pre post s c off mem b ps) ([Dec.br false, Dec.br false, Dec.rw (AVal.bool o), Dec.br false, Dec.br false, Dec.br false, Dec.rw (AVal.bool j), Dec.br true, Dec.use [] [iqPD 91] [] (AVal.agg [iqPD 91, iqPD 0, AVal.fsl true 2 [] none]) []]) = .ok (FRes.mk (AVal.agg [iqPD 91, iqPD 0, AVal.fsl true 2 [] none]) ([AObj.rows false 2 [[AVal.map 2, AVal.map 3]], AObj.rows false 2 [[AVal.map 4, AVal.slc b 5 2 0 (List.length ps) none]], AObj.mq pre [(AVal.agg [AVal.str s, AVal.str c], AVal.ptr 1 2 0 0)] post, AObj.mp true off, AObj.mp true mem, AObj.rows true 2 ps, AObj.rows true 2 [[AVal.str s, AVal.str c]], AObj.rows true 9 [[iqPD 3, AVal.str s, AVal.str c, AVal.str u, AVal.str x, AVal.str w0, AVal.str w0, iqPD 0, iqPD 0]], AObj.rows false 3 [[iqPD 91, iqPD 0, AVal.fsl true 2 [] none]]]) (tr 4 ++ ((Owed.use (owed Tryd.prog 6) 28 [] [iqPD 91] [AObj.rows false 2 [[AVal.map 2, AVal.map 3]], AObj.rows false 2 [[AVal.map 4, AVal.slc b 5 2 0 (List.length ps) none]], AObj.mq pre [(AVal.agg [AVal.str s, AVal.str c], AVal.ptr 1 2 0 0)] post, AObj.mp true off, AObj.mp true mem, AObj.rows true 2 ps, AObj.rows true 2 [[AVal.str s, AVal.str c]], AObj.rows true 9 [[iqPD 3, AVal.str s, AVal.str c, AVal.str u, AVal.str x, AVal.str w0, AVal.str w0, iqPD 0, iqPD 0]], AObj.rows false 3 [[iqPD 0, iqPD 0, AVal.fsl true 0 [] (some 0)]]] [iqPD 91] [] (AVal.agg [iqPD 91, iqPD 0, AVal.fsl true 2 [] none]) []) :: (((!j) = true) :: (tr 6 ++ (((lk4 u mem) = AVal.bool j) :: ((okCells Tryd.prog 4 (Option.getD (afind (AVal.str u) mem) (AVal.tt false)) = true) :: (((List.all mem fun p => keyKind Tryd.prog 9 (Prod.fst p)) = true) :: (tr 22 ++ ((false = false) :: (tr 21 ++ ((false = false) :: (tr 12 ++ ((o = false) :: (tr 4 ++ (((lk4 u off) = AVal.bool o) :: ((okCells Tryd.prog 4 (Option.getD (afind (AVal.str u) off) (AVal.tt false)) = true) :: (((List.all off fun p => keyKind Tryd.prog 9 (Prod.fst p)) = true) :: (tr 22 ++ ((false = false) :: ((false = false) :: (tr 3 ++ [])))))))))))))))))))))) by kernel_rfl) (allP_of (trC 4 ⟨⟨(@Go.MN.no_ok (91)), rfl, rfl, rfl⟩, ⟨h1, (trC 6 ⟨h2, ⟨h3, ⟨h4, (trC 22 ⟨rfl, (trC 21 ⟨rfl, (trC 12 ⟨h5, (trC 4 ⟨h6, ⟨h7, ⟨h8, (trC 22 ⟨rfl, ⟨rfl, (trC 3 trivial)⟩⟩)⟩⟩⟩)⟩)⟩)⟩)⟩⟩⟩)⟩⟩))).move ([0, 1, 2, 3, 4, 5]) (by kernel_rfl) (by kernel_rfl) (by kernel_rfl)

theorem wP_3 (pre : Ents) (post : Ents) (s : ByteArray) (c : ByteArray) (u : ByteArray) (x : ByteArray) (off : Ents) (mem : Ents) (b : Bool) (ps : List (List AVal)) (o : Bool) (j : Bool)
    (h1 : decide ((↑(List.length ps) : Int) ≥ 1024) = true)
    (h2 : (!j) = false)
    (h3 : (lk4 u mem) = AVal.bool j)
    (h4 : okCells Tryd.prog 4 (Option.getD (afind (AVal.str u) mem) (AVal.tt false)) = true)
    (h5 : (List.all mem fun p => keyKind Tryd.prog 9 (Prod.fst p)) = true)
    (h6 : o = false)
    (h7 : (lk4 u off) = AVal.bool o)
    (h8 : okCells Tryd.prog 4 (Option.getD (afind (AVal.str u) off) (AVal.tt false)) = true)
    (h9 : (List.all off fun p => keyKind Tryd.prog 9 (Prod.fst p)) = true) :
    FOk Tryd.prog 31 ([AVal.ptr 0 2 0 0, ky s c, AVal.ptr 1 2 0 0, opw 3 s c u x w0 w0 0 0]) (W6 pre post s c off mem b ps) (AVal.agg [iqPD 2, iqPD 0, AVal.fsl true 2 [] none]) ((W6 pre post s c off mem b ps)) :=
  (evalF_ok followed Tryd.func31 (by kernel_rfl) (show evalF Tryd.prog Tryd.f31 ([AVal.ptr 0 2 0 0, ky s c, AVal.ptr 1 2 0 0, opw 3 s c u x w0 w0 0 0]) (W6 pre post s c off mem b ps) ([Dec.br false, Dec.br false, Dec.rw (AVal.bool o), Dec.br false, Dec.br false, Dec.br false, Dec.rw (AVal.bool j), Dec.br false, Dec.br true, Dec.use [] [iqPD 2] [] (AVal.agg [iqPD 2, iqPD 0, AVal.fsl true 2 [] none]) []]) = .ok (FRes.mk (AVal.agg [iqPD 2, iqPD 0, AVal.fsl true 2 [] none]) ([AObj.rows false 2 [[AVal.map 2, AVal.map 3]], AObj.rows false 2 [[AVal.map 4, AVal.slc b 5 2 0 (List.length ps) none]], AObj.mq pre [(AVal.agg [AVal.str s, AVal.str c], AVal.ptr 1 2 0 0)] post, AObj.mp true off, AObj.mp true mem, AObj.rows true 2 ps, AObj.rows true 2 [[AVal.str s, AVal.str c]], AObj.rows true 9 [[iqPD 3, AVal.str s, AVal.str c, AVal.str u, AVal.str x, AVal.str w0, AVal.str w0, iqPD 0, iqPD 0]], AObj.rows false 3 [[iqPD 2, iqPD 0, AVal.fsl true 2 [] none]]]) (tr 4 ++ ((Owed.use (owed Tryd.prog 6) 28 [] [iqPD 2] [AObj.rows false 2 [[AVal.map 2, AVal.map 3]], AObj.rows false 2 [[AVal.map 4, AVal.slc b 5 2 0 (List.length ps) none]], AObj.mq pre [(AVal.agg [AVal.str s, AVal.str c], AVal.ptr 1 2 0 0)] post, AObj.mp true off, AObj.mp true mem, AObj.rows true 2 ps, AObj.rows true 2 [[AVal.str s, AVal.str c]], AObj.rows true 9 [[iqPD 3, AVal.str s, AVal.str c, AVal.str u, AVal.str x, AVal.str w0, AVal.str w0, iqPD 0, iqPD 0]], AObj.rows false 3 [[iqPD 0, iqPD 0, AVal.fsl true 0 [] (some 0)]]] [iqPD 2] [] (AVal.agg [iqPD 2, iqPD 0, AVal.fsl true 2 [] none]) []) :: ((decide ((↑(List.length ps) : Int) ≥ 1024) = true) :: (tr 2 ++ (((!j) = false) :: (tr 6 ++ (((lk4 u mem) = AVal.bool j) :: ((okCells Tryd.prog 4 (Option.getD (afind (AVal.str u) mem) (AVal.tt false)) = true) :: (((List.all mem fun p => keyKind Tryd.prog 9 (Prod.fst p)) = true) :: (tr 22 ++ ((false = false) :: (tr 21 ++ ((false = false) :: (tr 12 ++ ((o = false) :: (tr 4 ++ (((lk4 u off) = AVal.bool o) :: ((okCells Tryd.prog 4 (Option.getD (afind (AVal.str u) off) (AVal.tt false)) = true) :: (((List.all off fun p => keyKind Tryd.prog 9 (Prod.fst p)) = true) :: (tr 22 ++ ((false = false) :: ((false = false) :: (tr 3 ++ [])))))))))))))))))))))))) by kernel_rfl) (allP_of (trC 4 ⟨⟨(@Go.MN.no_ok (2)), rfl, rfl, rfl⟩, ⟨h1, (trC 2 ⟨h2, (trC 6 ⟨h3, ⟨h4, ⟨h5, (trC 22 ⟨rfl, (trC 21 ⟨rfl, (trC 12 ⟨h6, (trC 4 ⟨h7, ⟨h8, ⟨h9, (trC 22 ⟨rfl, ⟨rfl, (trC 3 trivial)⟩⟩)⟩⟩⟩)⟩)⟩)⟩)⟩⟩⟩)⟩)⟩⟩))).move ([0, 1, 2, 3, 4, 5]) (by kernel_rfl) (by kernel_rfl) (by kernel_rfl)

theorem wP_4 (pre : Ents) (post : Ents) (s : ByteArray) (c : ByteArray) (u : ByteArray) (x : ByteArray) (off : Ents) (mem : Ents) (b : Bool) (ps : List (List AVal)) (o : Bool) (j : Bool)
    (h1 : decide ((List.length ps + 1) * 32 ≤ 140737488355328 ∧ List.length ps + 1 ≤ 9223372036854775807) = true)
    (h2 : decide ((↑(List.length ps) : Int) ≥ 1024) = false)
    (h3 : (!j) = false)
    (h4 : (lk4 u mem) = AVal.bool j)
    (h5 : okCells Tryd.prog 4 (Option.getD (afind (AVal.str u) mem) (AVal.tt false)) = true)
    (h6 : (List.all mem fun p => keyKind Tryd.prog 9 (Prod.fst p)) = true)
    (h7 : o = false)
    (h8 : (lk4 u off) = AVal.bool o)
    (h9 : okCells Tryd.prog 4 (Option.getD (afind (AVal.str u) off) (AVal.tt false)) = true)
    (h10 : (List.all off fun p => keyKind Tryd.prog 9 (Prod.fst p)) = true) :
    FOk Tryd.prog 31 ([AVal.ptr 0 2 0 0, ky s c, AVal.ptr 1 2 0 0, opw 3 s c u x w0 w0 0 0]) (W6 pre post s c off mem b ps) (AVal.agg [iqPD 0, iqPD (IntKind.wrap IntKind.i64 ((↑(List.length ps + 1) : Int) - 1)), AVal.fsl true 2 [] none]) ([AObj.rows false 2 [[AVal.map 2, AVal.map 3]], AObj.rows false 2 [[AVal.map 4, AVal.slc (b && false) 6 2 0 (List.length ps + 1) none]], AObj.mq pre [(AVal.agg [AVal.str s, AVal.str c], AVal.ptr 1 2 0 0)] post, AObj.mp true off, AObj.mp true mem, AObj.dead, AObj.rows true 2 (ps ++ [[AVal.str u, AVal.str x]])]) :=
  (evalF_ok followed Tryd.func31 (by kernel_rfl) (show evalF Tryd.prog Tryd.f31 ([AVal.ptr 0 2 0 0, ky s c, AVal.ptr 1 2 0 0, opw 3 s c u x w0 w0 0 0]) (W6 pre post s c off mem b ps) ([Dec.br false, Dec.br false, Dec.rw (AVal.bool o), Dec.br false, Dec.br false, Dec.br false, Dec.rw (AVal.bool j), Dec.br false, Dec.br false]) = .ok (FRes.mk (AVal.agg [iqPD 0, iqPD (IntKind.wrap IntKind.i64 ((↑(List.length ps + 1) : Int) - 1)), AVal.fsl true 2 [] none]) ([AObj.rows false 2 [[AVal.map 2, AVal.map 3]], AObj.rows false 2 [[AVal.map 4, AVal.slc (b && false) 10 2 0 (List.length ps + 1) none]], AObj.mq pre [(AVal.agg [AVal.str s, AVal.str c], AVal.ptr 1 2 0 0)] post, AObj.mp true off, AObj.mp true mem, AObj.dead, AObj.rows true 2 [[AVal.str s, AVal.str c]], AObj.rows true 9 [[iqPD 3, AVal.str s, AVal.str c, AVal.str u, AVal.str x, AVal.str w0, AVal.str w0, iqPD 0, iqPD 0]], AObj.rows false 3 [[iqPD 0, iqPD (IntKind.wrap IntKind.i64 ((↑(List.length ps + 1) : Int) - 1)), AVal.fsl true 0 [] (some 0)]], AObj.rows true 2 [[AVal.str u, AVal.str x]], AObj.rows true 2 (ps ++ [[AVal.str u, AVal.str x]])]) (tr 17 ++ ((decide (List.length ps = List.length ps) = true) :: ((decide ((List.length ps + 1) * 32 ≤ 140737488355328 ∧ List.length ps + 1 ≤ 9223372036854775807) = true) :: (tr 46 ++ ((decide ((↑(List.length ps) : Int) ≥ 1024) = false) :: (tr 2 ++ (((!j) = false) :: (tr 6 ++ (((lk4 u mem) = AVal.bool j) :: ((okCells Tryd.prog 4 (Option.getD (afind (AVal.str u) mem) (AVal.tt false)) = true) :: (((List.all mem fun p => keyKind Tryd.prog 9 (Prod.fst p)) = true) :: (tr 22 ++ ((false = false) :: (tr 21 ++ ((false = false) :: (tr 12 ++ ((o = false) :: (tr 4 ++ (((lk4 u off) = AVal.bool o) :: ((okCells Tryd.prog 4 (Option.getD (afind (AVal.str u) off) (AVal.tt false)) = true) :: (((List.all off fun p => keyKind Tryd.prog 9 (Prod.fst p)) = true) :: (tr 22 ++ ((false = false) :: ((false = false) :: (tr 3 ++ [])))))))))))))))))))))))))) by kernel_rfl) (allP_of (trC 17 ⟨decide_eq_true rfl, ⟨h1, (trC 46 ⟨h2, (trC 2 ⟨h3, (trC 6 ⟨h4, ⟨h5, ⟨h6, (trC 22 ⟨rfl, (trC 21 ⟨rfl, (trC 12 ⟨h7, (trC 4 ⟨h8, ⟨h9, ⟨h10, (trC 22 ⟨rfl, ⟨rfl, (trC 3 trivial)⟩⟩)⟩⟩⟩)⟩)⟩)⟩)⟩⟩⟩)⟩)⟩)⟩⟩))).move ([0, 1, 2, 3, 4, 5, 10]) (by kernel_rfl) (by kernel_rfl) (by kernel_rfl)

def wP_T (pre : Ents) (post : Ents) (s : ByteArray) (c : ByteArray) (u : ByteArray) (x : ByteArray) (off : Ents) (mem : Ents) (b : Bool) (ps : List (List AVal)) (o : Bool) (j : Bool) (Q : AVal → AState → Prop) : Prop := ((List.all off fun p => keyKind Tryd.prog 9 (Prod.fst p)) = true) ∧ (okCells Tryd.prog 4 (Option.getD (afind (AVal.str u) off) (AVal.tt false)) = true) ∧ ((if false = true then AVal.tuple [asType Tryd.prog 4 (reifyL [Kind.bool] (AVal.cells (Option.getD (afind (AVal.str u) off) (AVal.tt false)))), AVal.tt (Option.isSome (afind (AVal.str u) off))] else asType Tryd.prog 4 (reifyL [Kind.bool] (AVal.cells (Option.getD (afind (AVal.str u) off) (AVal.tt false))))) = AVal.bool o) ∧ ((o = true) → Q (AVal.agg [AVal.int IntKind.i64 92, AVal.int IntKind.i64 0, AVal.fsl true 2 [] none]) ([AObj.rows false 2 [[AVal.map 2, AVal.map 3]], AObj.rows false 2 [[AVal.map 4, AVal.slc b 5 2 0 (List.length ps) none]], AObj.mq pre [(AVal.agg [AVal.str s, AVal.str c], AVal.ptr 1 2 0 0)] post, AObj.mp true off, AObj.mp true mem, AObj.rows true 2 ps])) ∧ ((o = false) → ((List.all mem fun p => keyKind Tryd.prog 9 (Prod.fst p)) = true) ∧ (okCells Tryd.prog 4 (Option.getD (afind (AVal.str u) mem) (AVal.tt false)) = true) ∧ ((if false = true then AVal.tuple [asType Tryd.prog 4 (reifyL [Kind.bool] (AVal.cells (Option.getD (afind (AVal.str u) mem) (AVal.tt false)))), AVal.tt (Option.isSome (afind (AVal.str u) mem))] else asType Tryd.prog 4 (reifyL [Kind.bool] (AVal.cells (Option.getD (afind (AVal.str u) mem) (AVal.tt false))))) = AVal.bool j) ∧ (((!j) = true) → Q (AVal.agg [AVal.int IntKind.i64 91, AVal.int IntKind.i64 0, AVal.fsl true 2 [] none]) ([AObj.rows false 2 [[AVal.map 2, AVal.map 3]], AObj.rows false 2 [[AVal.map 4, AVal.slc b 5 2 0 (List.length ps) none]], AObj.mq pre [(AVal.agg [AVal.str s, AVal.str c], AVal.ptr 1 2 0 0)] post, AObj.mp true off, AObj.mp true mem, AObj.rows true 2 ps])) ∧ (((!j) = false) → ((decide ((↑(List.length ps) : Int) ≥ 1024) = true) → Q (AVal.agg [AVal.int IntKind.i64 2, AVal.int IntKind.i64 0, AVal.fsl true 2 [] none]) ([AObj.rows false 2 [[AVal.map 2, AVal.map 3]], AObj.rows false 2 [[AVal.map 4, AVal.slc b 5 2 0 (List.length ps) none]], AObj.mq pre [(AVal.agg [AVal.str s, AVal.str c], AVal.ptr 1 2 0 0)] post, AObj.mp true off, AObj.mp true mem, AObj.rows true 2 ps])) ∧ ((decide ((↑(List.length ps) : Int) ≥ 1024) = false) → (decide ((List.length ps + 1) * 32 ≤ 140737488355328 ∧ List.length ps + 1 ≤ 9223372036854775807) = true) ∧ Q (AVal.agg [AVal.int IntKind.i64 0, AVal.int IntKind.i64 (IntKind.wrap IntKind.i64 ((↑(List.length ps + 1) : Int) - 1)), AVal.fsl true 2 [] none]) ([AObj.rows false 2 [[AVal.map 2, AVal.map 3]], AObj.rows false 2 [[AVal.map 4, AVal.slc (b && false) 6 2 0 (List.length ps + 1) none]], AObj.mq pre [(AVal.agg [AVal.str s, AVal.str c], AVal.ptr 1 2 0 0)] post, AObj.mp true off, AObj.mp true mem, AObj.dead, AObj.rows true 2 (ps ++ [[AVal.str u, AVal.str x]])]))))
theorem wP_wp (pre : Ents) (post : Ents) (s : ByteArray) (c : ByteArray) (u : ByteArray) (x : ByteArray) (off : Ents) (mem : Ents) (b : Bool) (ps : List (List AVal)) (o : Bool) (j : Bool) {Q : AVal → AState → Prop} (h : wP_T pre post s c u x off mem b ps o j Q) : ∃ r σ', FOk Tryd.prog 31 ([AVal.ptr 0 2 0 0, ky s c, AVal.ptr 1 2 0 0, opw 3 s c u x w0 w0 0 0]) (W6 pre post s c off mem b ps) r σ' ∧ Q r σ' :=
  brE (fun (c0 : o = true) => ⟨_, _, wP_1 pre post s c u x off mem b ps o j (c0) (h.2.2.1) (h.2.1) (h.1), (h.2.2.2.1 c0)⟩) (fun (c0 : o = false) => brE (fun (c1 : (!j) = true) => ⟨_, _, wP_2 pre post s c u x off mem b ps o j (c1) ((h.2.2.2.2 c0).2.2.1) ((h.2.2.2.2 c0).2.1) ((h.2.2.2.2 c0).1) (c0) (h.2.2.1) (h.2.1) (h.1), ((h.2.2.2.2 c0).2.2.2.1 c1)⟩) (fun (c1 : (!j) = false) => brE (fun (c2 : decide ((↑(List.length ps) : Int) ≥ 1024) = true) => ⟨_, _, wP_3 pre post s c u x off mem b ps o j (c2) (c1) ((h.2.2.2.2 c0).2.2.1) ((h.2.2.2.2 c0).2.1) ((h.2.2.2.2 c0).1) (c0) (h.2.2.1) (h.2.1) (h.1), (((h.2.2.2.2 c0).2.2.2.2 c1).1 c2)⟩) (fun (c2 : decide ((↑(List.length ps) : Int) ≥ 1024) = false) => ⟨_, _, wP_4 pre post s c u x off mem b ps o j ((((h.2.2.2.2 c0).2.2.2.2 c1).2 c2).1) (c2) (c1) ((h.2.2.2.2 c0).2.2.1) ((h.2.2.2.2 c0).2.1) ((h.2.2.2.2 c0).1) (c0) (h.2.2.1) (h.2.1) (h.1), (((h.2.2.2.2 c0).2.2.2.2 c1).2 c2).2⟩)))


theorem wR_1 (pre : Ents) (post : Ents) (s : ByteArray) (c : ByteArray) (f : Int) (m : Int) (off : Ents) (mem : Ents) (b : Bool) (ps : List (List AVal)) (nl : Bool) (qs : List (List AVal))
    (h1 : FOk Tryd.prog 45 [AVal.slc b 0 2 (Int.toNat (imin f (↑(List.length ps) : Int))) (Int.toNat (imin (IntKind.wrap IntKind.i64 (imin f (↑(List.length ps) : Int) + m)) (↑(List.length ps) : Int)) - Int.toNat (imin f (↑(List.length ps) : Int))) none] [AObj.rows true 2 ps] (AVal.fsl nl 2 qs none) [AObj.rows true 2 ps])
    (h2 : decide (0 ≤ imin f (↑(List.length ps) : Int) ∧ imin f (↑(List.length ps) : Int) ≤ imin (IntKind.wrap IntKind.i64 (imin f (↑(List.length ps) : Int) + m)) (↑(List.length ps) : Int) ∧ imin (IntKind.wrap IntKind.i64 (imin f (↑(List.length ps) : Int) + m)) (↑(List.length ps) : Int) ≤ (↑(List.length ps) : Int)) = true) :
    FOk Tryd.prog 31 ([AVal.ptr 0 2 0 0, ky s c, AVal.ptr 1 2 0 0, opw 4 s c w0 w0 w0 w0 f m]) (W6 pre post s c off mem b ps) (AVal.agg [iqPD 0, iqPD (IntKind.wrap IntKind.i64 (imin f (↑(List.length ps) : Int) + (↑(Int.toNat (imin (IntKind.wrap IntKind.i64 (imin f (↑(List.length ps) : Int) + m)) (↑(List.length ps) : Int)) - Int.toNat (imin f (↑(List.length ps) : Int))) : Int))), AVal.fsl nl 2 qs none]) ((W6 pre post s c off mem b ps)) :=
  (evalF_ok followed Tryd.func31 (by kernel_rfl) (show evalF Tryd.prog Tryd.f31 ([AVal.ptr 0 2 0 0, ky s c, AVal.ptr 1 2 0 0, opw 4 s c w0 w0 w0 w0 f m]) (W6 pre post s c off mem b ps) ([Dec.br true, Dec.use [5] [AVal.slc b 0 2 (Int.toNat (imin f (↑(List.length ps) : Int))) (Int.toNat (imin (IntKind.wrap IntKind.i64 (imin f (↑(List.length ps) : Int) + m)) (↑(List.length ps) : Int)) - Int.toNat (imin f (↑(List.length ps) : Int))) none] [AObj.rows true 2 ps] (AVal.fsl nl 2 qs none) [AObj.rows true 2 ps]]) = .ok (FRes.mk (AVal.agg [iqPD 0, iqPD (IntKind.wrap IntKind.i64 (imin f (↑(List.length ps) : Int) + (↑(Int.toNat (imin (IntKind.wrap IntKind.i64 (imin f (↑(List.length ps) : Int) + m)) (↑(List.length ps) : Int)) - Int.toNat (imin f (↑(List.length ps) : Int))) : Int))), AVal.fsl nl 2 qs none]) ([AObj.rows false 2 [[AVal.map 2, AVal.map 3]], AObj.rows false 2 [[AVal.map 4, AVal.slc b 5 2 0 (List.length ps) none]], AObj.mq pre [(AVal.agg [AVal.str s, AVal.str c], AVal.ptr 1 2 0 0)] post, AObj.mp true off, AObj.mp true mem, AObj.rows true 2 ps, AObj.rows true 2 [[AVal.str s, AVal.str c]], AObj.rows true 9 [[iqPD 4, AVal.str s, AVal.str c, AVal.str w0, AVal.str w0, AVal.str w0, AVal.str w0, iqPD f, iqPD m]], AObj.rows false 3 [[iqPD 0, iqPD (IntKind.wrap IntKind.i64 (imin f (↑(List.length ps) : Int) + (↑(Int.toNat (imin (IntKind.wrap IntKind.i64 (imin f (↑(List.length ps) : Int) + m)) (↑(List.length ps) : Int)) - Int.toNat (imin f (↑(List.length ps) : Int))) : Int))), AVal.fsl nl 2 qs none]]]) (tr 4 ++ ((Owed.use (owed Tryd.prog 6) 45 [5] [AVal.slc b 5 2 (Int.toNat (imin f (↑(List.length ps) : Int))) (Int.toNat (imin (IntKind.wrap IntKind.i64 (imin f (↑(List.length ps) : Int) + m)) (↑(List.length ps) : Int)) - Int.toNat (imin f (↑(List.length ps) : Int))) none] [AObj.rows false 2 [[AVal.map 2, AVal.map 3]], AObj.rows false 2 [[AVal.map 4, AVal.slc b 5 2 0 (List.length ps) none]], AObj.mq pre [(AVal.agg [AVal.str s, AVal.str c], AVal.ptr 1 2 0 0)] post, AObj.mp true off, AObj.mp true mem, AObj.rows true 2 ps, AObj.rows true 2 [[AVal.str s, AVal.str c]], AObj.rows true 9 [[iqPD 4, AVal.str s, AVal.str c, AVal.str w0, AVal.str w0, AVal.str w0, AVal.str w0, iqPD f, iqPD m]], AObj.rows false 3 [[iqPD 0, iqPD 0, AVal.fsl true 0 [] (some 0)]]] [AVal.slc b 0 2 (Int.toNat (imin f (↑(List.length ps) : Int))) (Int.toNat (imin (IntKind.wrap IntKind.i64 (imin f (↑(List.length ps) : Int) + m)) (↑(List.length ps) : Int)) - Int.toNat (imin f (↑(List.length ps) : Int))) none] [AObj.rows true 2 ps] (AVal.fsl nl 2 qs none) [AObj.rows true 2 ps]) :: (tr 4 ++ ((decide (0 ≤ imin f (↑(List.length ps) : Int) ∧ imin f (↑(List.length ps) : Int) ≤ imin (IntKind.wrap IntKind.i64 (imin f (↑(List.length ps) : Int) + m)) (↑(List.length ps) : Int) ∧ imin (IntKind.wrap IntKind.i64 (imin f (↑(List.length ps) : Int) + m)) (↑(List.length ps) : Int) ≤ (↑(List.length ps) : Int)) = true) :: (tr 94 ++ [])))))) by kernel_rfl) (allP_of (trC 4 ⟨⟨h1, rfl, rfl, rfl⟩, (trC 4 ⟨h2, (trC 94 trivial)⟩)⟩))).move ([0, 1, 2, 3, 4, 5]) (by kernel_rfl) (by kernel_rfl) (by kernel_rfl)

def wR_T (pre : Ents) (post : Ents) (s : ByteArray) (c : ByteArray) (f : Int) (m : Int) (off : Ents) (mem : Ents) (b : Bool) (ps : List (List AVal)) (nl : Bool) (qs : List (List AVal)) (Q : AVal → AState → Prop) : Prop := (decide (0 ≤ imin f (↑(List.length ps) : Int) ∧ imin f (↑(List.length ps) : Int) ≤ imin (IntKind.wrap IntKind.i64 (imin f (↑(List.length ps) : Int) + m)) (↑(List.length ps) : Int) ∧ imin (IntKind.wrap IntKind.i64 (imin f (↑(List.length ps) : Int) + m)) (↑(List.length ps) : Int) ≤ (↑(List.length ps) : Int)) = true) ∧ (FOk Tryd.prog 45 [AVal.slc b 0 2 (Int.toNat (imin f (↑(List.length ps) : Int))) (Int.toNat (imin (IntKind.wrap IntKind.i64 (imin f (↑(List.length ps) : Int) + m)) (↑(List.length ps) : Int)) - Int.toNat (imin f (↑(List.length ps) : Int))) none] [AObj.rows true 2 ps] (AVal.fsl nl 2 qs none) [AObj.rows true 2 ps]) ∧ Q (AVal.agg [AVal.int IntKind.i64 0, AVal.int IntKind.i64 (IntKind.wrap IntKind.i64 (imin f (↑(List.length ps) : Int) + (↑(Int.toNat (imin (IntKind.wrap IntKind.i64 (imin f (↑(List.length ps) : Int) + m)) (↑(List.length ps) : Int)) - Int.toNat (imin f (↑(List.length ps) : Int))) : Int))), AVal.fsl nl 2 qs none]) ([AObj.rows false 2 [[AVal.map 2, AVal.map 3]], AObj.rows false 2 [[AVal.map 4, AVal.slc b 5 2 0 (List.length ps) none]], AObj.mq pre [(AVal.agg [AVal.str s, AVal.str c], AVal.ptr 1 2 0 0)] post, AObj.mp true off, AObj.mp true mem, AObj.rows true 2 ps])
theorem wR_wp (pre : Ents) (post : Ents) (s : ByteArray) (c : ByteArray) (f : Int) (m : Int) (off : Ents) (mem : Ents) (b : Bool) (ps : List (List AVal)) (nl : Bool) (qs : List (List AVal)) {Q : AVal → AState → Prop} (h : wR_T pre post s c f m off mem b ps nl qs Q) : ∃ r σ', FOk Tryd.prog 31 ([AVal.ptr 0 2 0 0, ky s c, AVal.ptr 1 2 0 0, opw 4 s c w0 w0 w0 w0 f m]) (W6 pre post s c off mem b ps) r σ' ∧ Q r σ' :=
  ⟨_, _, wR_1 pre post s c f m off mem b ps nl qs (h.2.1) (h.1), h.2.2⟩


end Go.MN
end

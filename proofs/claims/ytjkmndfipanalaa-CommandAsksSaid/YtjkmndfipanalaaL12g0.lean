import Derived.Test.YtjkmndfipanalaaProg
import Derived.Test.YtjkmndfipanalaaAbsG
section
set_option linter.unusedVariables false
set_option maxRecDepth 100000
namespace Go.L12
open Go Go.Abs Go.Proofs
instance : Glob := noGlob

theorem followed : Try.prog.follows .mixedOrders = true := by kernel_rfl
abbrev flC (p : Nat) : List (List AVal) := [[.iface 100 (.ptr p 20 0 0)], [.iface 100 (.ptr p 20 0 1)], [.iface 100 (.ptr p 20 0 2)], [.iface 100 (.ptr p 20 0 12)], [.iface 100 (.ptr p 20 0 13)], [.iface 100 (.ptr p 20 0 14)], [.iface 100 (.ptr p 20 0 15)], [.iface 100 (.ptr p 20 0 16)], [.iface 101 (.ptr p 20 0 17)], [.iface 102 (.ptr p 20 0 18)], [.iface 100 (.ptr p 20 0 3)], [.iface 104 (.ptr p 20 0 4)], [.iface 104 (.ptr p 20 0 5)], [.iface 104 (.ptr p 20 0 6)], [.iface 104 (.ptr p 20 0 7)], [.iface 104 (.ptr p 20 0 8)], [.iface 104 (.ptr p 20 0 9)], [.iface 100 (.ptr p 20 0 10)], [.iface 100 (.ptr p 20 0 11)], [.iface 104 (.ptr p 20 0 19)]]
abbrev flQ (p q : Nat) : List (List AVal) := [[.iface 100 (.ptr p 2 0 0)], [.iface 100 (.ptr p 2 0 1)], [.iface 100 (.ptr q 9 0 0)], [.iface 104 (.ptr q 9 0 1)], [.iface 104 (.ptr q 9 0 2)], [.iface 104 (.ptr q 9 0 3)], [.iface 104 (.ptr q 9 0 4)], [.iface 104 (.ptr q 9 0 5)], [.iface 104 (.ptr q 9 0 6)], [.iface 100 (.ptr q 9 0 7)], [.iface 100 (.ptr q 9 0 8)]]
abbrev rC (c0 : Int) (c1 : Int) (c2 : Int) (c3 : Int) (c4 : ByteArray) (c5 : ByteArray) (c6 : ByteArray) (c7 : ByteArray) (c8 : ByteArray) (c9 : ByteArray) (c10 : Int) (c11 : Int) (c12 : Int) (c13 : Int) (c14 : Int) (c15 : Int) (c16 : Int) (c17 : Bool) (c18 : Int) (c19 : ByteArray) : List AVal := [.int .i64 c0, .int .i64 c1, .int .i64 c2, .int .i64 c3, .str c4, .str c5, .str c6, .str c7, .str c8, .str c9, .int .i64 c10, .int .i64 c11, .int .i64 c12, .int .i64 c13, .int .i64 c14, .int .i64 c15, .int .i64 c16, .bool c17, .int .i64 c18, .str c19]
abbrev rQ (c0 : Int) (c1 : ByteArray) (c2 : ByteArray) (c3 : ByteArray) (c4 : ByteArray) (c5 : ByteArray) (c6 : ByteArray) (c7 : Int) (c8 : Int) : List AVal := [.int .i64 c0, .str c1, .str c2, .str c3, .str c4, .str c5, .str c6, .int .i64 c7, .int .i64 c8]
abbrev rQ0 : List AVal := [.int .i64 0, .str ⟨#[]⟩, .str ⟨#[]⟩, .str ⟨#[]⟩, .str ⟨#[]⟩, .str ⟨#[]⟩, .str ⟨#[]⟩, .int .i64 0, .int .i64 0]
abbrev rC0t : List AVal := [.int .i64 0, .int .i64 0, .int .i64 0, .int .i64 0, .str ⟨#[]⟩, .str ⟨#[]⟩, .str ⟨#[]⟩, .str ⟨#[]⟩, .str ⟨#[]⟩, .str ⟨#[]⟩, .int .i64 0, .int .i64 0, .int .i64 0, .int .i64 0, .int .i64 0, .int .i64 0, .int .i64 0, .tt false, .int .i64 0, .str ⟨#[]⟩]
abbrev iI (n : Int) : AVal := .int .i64 n
abbrev oU (n : Nat) := Owed.use (owed Try.prog n)
abbrev rA0 (a0 a1 : Int) : List AVal := [.int .i64 a0, .int .i64 a1]
abbrev rA1 (b0 b1 : Int) (v : AVal) : List AVal := [.int .i64 b0, .int .i64 b1, v]
abbrev flA (p q : Nat) : List (List AVal) := [[.iface 100 (.ptr p 2 0 0)], [.iface 100 (.ptr p 2 0 1)], [.iface 102 (.ptr q 3 0 0)], [.iface 100 (.ptr q 3 0 1)], [.iface 112 (.ptr q 3 0 2)]]
end Go.L12
end

section
set_option linter.unusedVariables false
set_option maxRecDepth 100000
namespace Go.L12
open Go Go.Abs Go.Abs.AVal Go.Abs.AObj Go.Proofs

def rgPV (n : Int) (b : Bool) (k : Nat) : Regs := mkR 23 [(0, .int .i64 n), (4, .slc b 0 1 0 k none)]
theorem pv_1 (n : Int) (b : Bool) (rs : List (List AVal))
    (h1 : decide ((List.length rs + 1) * 1 ≤ 140737488355328 ∧ List.length rs + 1 ≤ 9223372036854775807) = true)
    (h2 : decide (n > 127) = true) :
    TripN Try.prog 0 (loopNo Try.f70 0) (rgPV n b (List.length rs)) ([rows true 1 rs]) (AExit.normal) (mkR 23 [(0, iI (Int.fdiv n 128)), (4, slc (b && false) 0 1 0 (List.length rs + 1) none)]) ([rows true 1 (rs ++ [[int IntKind.u8 (bits BinOp.or IntKind.u8 (IntKind.wrap IntKind.u8 n) 128)]])]) :=
  evalT (st := St.mk (rgPV n b (List.length rs)) ([rows true 1 rs]) ([Dec.br true]) []) (st' := St.mk (mkR 23 [(0, iI (Int.fdiv n 128)), (4, slc (b && false) 2 1 0 (List.length rs + 1) none), (7, iI n), (8, tt true), (9, iI n), (10, iI (Int.fdiv n 128)), (11, slc b 0 1 0 (List.length rs) none), (12, iI n), (13, int IntKind.u8 (IntKind.wrap IntKind.u8 n)), (14, int IntKind.u8 (bits BinOp.or IntKind.u8 (IntKind.wrap IntKind.u8 n) 128)), (15, slc false 1 1 0 1 (some 1)), (16, slc (b && false) 2 1 0 (List.length rs + 1) none)]) ([dead, rows true 1 [[int IntKind.u8 (bits BinOp.or IntKind.u8 (IntKind.wrap IntKind.u8 n) 128)]], rows true 1 (rs ++ [[int IntKind.u8 (bits BinOp.or IntKind.u8 (IntKind.wrap IntKind.u8 n) 128)]])]) ([]) (tr 1 ++ ((decide (List.length rs = List.length rs) = true) :: ((decide ((List.length rs + 1) * 1 ≤ 140737488355328 ∧ List.length rs + 1 ≤ 9223372036854775807) = true) :: (tr 2 ++ ((decide (n > 127) = true) :: [])))))) followed (by kernel_rfl) (allP_of (trC 1 ⟨decide_eq_true rfl, ⟨h1, (trC 2 ⟨h2, trivial⟩)⟩⟩)) (keepM 23 [0, 4]) ([2]) (by kernel_rfl) (by kernel_rfl) (by kernel_rfl)

theorem pv_2 (n : Int) (b : Bool) (rs : List (List AVal))
    (h1 : decide (n > 127) = false) :
    TripN Try.prog 0 (loopNo Try.f70 0) (rgPV n b (List.length rs)) ([rows true 1 rs]) (AExit.exit 0) (mkR 23 [(0, iI n), (4, slc b 0 1 0 (List.length rs) none)]) ([rows true 1 rs]) :=
  evalT (st := St.mk (rgPV n b (List.length rs)) ([rows true 1 rs]) ([Dec.br false]) []) (st' := St.mk (mkR 23 [(0, iI n), (4, slc b 0 1 0 (List.length rs) none), (7, iI n), (8, tt false)]) ([rows true 1 rs]) ([]) ((decide (n > 127) = false) :: [])) followed (by kernel_rfl) (allP_of ⟨h1, trivial⟩) (keepM 23 [0, 4]) ([0]) (by kernel_rfl) (by kernel_rfl) (by kernel_rfl)

def pv_T (n : Int) (b : Bool) (rs : List (List AVal)) (Q : AExit → Regs → AState → Prop) : Prop := ((decide (n > 127) = true) → (decide ((List.length rs + 1) * 1 ≤ 140737488355328 ∧ List.length rs + 1 ≤ 9223372036854775807) = true) ∧ Q (AExit.normal) (mkR 23 [(0, iI (Int.fdiv n 128)), (4, slc (b && false) 0 1 0 (List.length rs + 1) none)]) ([rows true 1 (rs ++ [[int IntKind.u8 (bits BinOp.or IntKind.u8 (IntKind.wrap IntKind.u8 n) 128)]])])) ∧ ((decide (n > 127) = false) → Q (AExit.exit 0) (mkR 23 [(0, iI n), (4, slc b 0 1 0 (List.length rs) none)]) ([rows true 1 rs]))
theorem pv_wp (n : Int) (b : Bool) (rs : List (List AVal)) {Q : AExit → Regs → AState → Prop} (h : pv_T n b rs Q) : ∃ e rg' σ', TripN Try.prog 0 (loopNo Try.f70 0) (rgPV n b (List.length rs)) ([rows true 1 rs]) e rg' σ' ∧ Q e rg' σ' :=
  brE (fun (c0 : decide (n > 127) = true) => ⟨_, _, _, pv_1 n b rs ((h.1 c0).1) (c0), (h.1 c0).2⟩) (fun (c0 : decide (n > 127) = false) => ⟨_, _, _, pv_2 n b rs (c0), (h.2 c0)⟩)


theorem putv_1 (n m : Int) (b : Bool) (rs : List (List AVal))
    (h1 : decide (n < 0) = true) :
    FOk Try.prog 70 ([iI n]) ([]) (tuple [str (ByteArray.mk #[]), iI 1]) ([]) :=
  (evalF_ok followed Try.func70 (by kernel_rfl) (show evalF Try.prog Try.f70 ([iI n]) ([]) ([Dec.br true]) = .ok (FRes.mk (tuple [str (ByteArray.mk #[]), iI 1]) ([]) ((decide (n < 0) = true) :: [])) by kernel_rfl) (allP_of ⟨h1, trivial⟩)).move ([]) (by kernel_rfl) (by kernel_rfl) (by kernel_rfl)

theorem putv_2 (n m : Int) (b : Bool) (rs : List (List AVal))
    (h1 : (List.all (List.take (List.length rs + 1) (rs ++ [[int IntKind.u8 (IntKind.wrap IntKind.u8 m)]])) fun r => areKinds [Kind.int IntKind.u8] r) = true)
    (h2 : decide (0 + (List.length rs + 1) ≤ List.length (rs ++ [[int IntKind.u8 (IntKind.wrap IntKind.u8 m)]])) = true)
    (h3 : (List.all (List.take (List.length rs + 1) (rs ++ [[int IntKind.u8 (IntKind.wrap IntKind.u8 m)]])) fun r => List.all r oneCell) = true)
    (h4 : decide ((List.length rs + 1) * 1 ≤ 140737488355328 ∧ List.length rs + 1 ≤ 9223372036854775807) = true)
    (h5 : TripN Try.prog 0 (Code.loop (loopNo Try.f70 0)) (mkR 23 [(0, iI n), (4, slc true 0 1 0 0 none)]) [rows true 1 []] (AExit.exit 0) (mkR 23 [(0, iI m), (4, slc b 0 1 0 (List.length rs) none)]) [rows true 1 rs])
    (h6 : decide (n < 0) = false) :
    FOk Try.prog 70 ([iI n]) ([]) (tuple [str (rowBytes (List.take (List.length rs + 1) (rs ++ [[int IntKind.u8 (IntKind.wrap IntKind.u8 m)]]))), iI 0]) ([]) :=
  (evalF_ok followed Try.func70 (by kernel_rfl) (show evalF Try.prog Try.f70 ([iI n]) ([]) ([Dec.br false, Dec.place 4 1 true, Dec.compact (keepM 23 [0, 4]) [0], Dec.loop (AExit.exit 0) (rgPV m b (List.length rs)) [rows true 1 rs]]) = .ok (FRes.mk (tuple [str (rowBytes (List.take (List.length rs + 1) (rs ++ [[int IntKind.u8 (IntKind.wrap IntKind.u8 m)]]))), iI 0]) ([dead, rows true 1 [[int IntKind.u8 (IntKind.wrap IntKind.u8 m)]], rows true 1 (rs ++ [[int IntKind.u8 (IntKind.wrap IntKind.u8 m)]])]) (((List.all (List.take (List.length rs + 1) (rs ++ [[int IntKind.u8 (IntKind.wrap IntKind.u8 m)]])) fun r => areKinds [Kind.int IntKind.u8] r) = true) :: ((decide (0 + (List.length rs + 1) ≤ List.length (rs ++ [[int IntKind.u8 (IntKind.wrap IntKind.u8 m)]])) = true) :: (((List.all (List.take (List.length rs + 1) (rs ++ [[int IntKind.u8 (IntKind.wrap IntKind.u8 m)]])) fun r => List.all r oneCell) = true) :: ((decide (List.length rs = List.length rs) = true) :: ((decide ((List.length rs + 1) * 1 ≤ 140737488355328 ∧ List.length rs + 1 ≤ 9223372036854775807) = true) :: (tr 2 ++ ((Owed.loop (owed Try.prog 0) (loopNo Try.f70 0) (mkR 23 [(0, iI n), (4, slc true 0 1 0 0 none)]) [rows true 1 []] (AExit.exit 0) (mkR 23 [(0, iI m), (4, slc b 0 1 0 (List.length rs) none)]) [rows true 1 rs]) :: ((decide (n < 0) = false) :: []))))))))) by kernel_rfl) (allP_of ⟨h1, ⟨h2, ⟨h3, ⟨decide_eq_true rfl, ⟨h4, (trC 2 ⟨h5, ⟨h6, trivial⟩⟩)⟩⟩⟩⟩⟩)).move ([]) (by kernel_rfl) (by kernel_rfl) (by kernel_rfl)

def putv_T (n m : Int) (b : Bool) (rs : List (List AVal)) (Q : AVal → AState → Prop) : Prop := ((decide (n < 0) = true) → Q (tuple [str (ByteArray.mk #[]), iI 1]) ([])) ∧ ((decide (n < 0) = false) → (TripN Try.prog 0 (Code.loop (loopNo Try.f70 0)) (mkR 23 [(0, iI n), (4, slc true 0 1 0 0 none)]) [rows true 1 []] (AExit.exit 0) (mkR 23 [(0, iI m), (4, slc b 0 1 0 (List.length rs) none)]) [rows true 1 rs]) ∧ (decide ((List.length rs + 1) * 1 ≤ 140737488355328 ∧ List.length rs + 1 ≤ 9223372036854775807) = true) ∧ ((List.all (List.take (List.length rs + 1) (rs ++ [[int IntKind.u8 (IntKind.wrap IntKind.u8 m)]])) fun r => List.all r oneCell) = true) ∧ (decide (0 + (List.length rs + 1) ≤ List.length (rs ++ [[int IntKind.u8 (IntKind.wrap IntKind.u8 m)]])) = true) ∧ ((List.all (List.take (List.length rs + 1) (rs ++ [[int IntKind.u8 (IntKind.wrap IntKind.u8 m)]])) fun r => areKinds [Kind.int IntKind.u8] r) = true) ∧ Q (tuple [str (rowBytes (List.take (List.length rs + 1) (rs ++ [[int IntKind.u8 (IntKind.wrap IntKind.u8 m)]]))), iI 0]) ([]))
theorem putv_wp (n m : Int) (b : Bool) (rs : List (List AVal)) {Q : AVal → AState → Prop} (h : putv_T n m b rs Q) : ∃ r σ', FOk Try.prog 70 ([iI n]) ([]) r σ' ∧ Q r σ' :=
  brE (fun (c0 : decide (n < 0) = true) => ⟨_, _, putv_1 n m b rs (c0), (h.1 c0)⟩) (fun (c0 : decide (n < 0) = false) => ⟨_, _, putv_2 n m b rs ((h.2 c0).2.2.2.2.1) ((h.2 c0).2.2.2.1) ((h.2 c0).2.2.1) ((h.2 c0).2.1) ((h.2 c0).1) (c0), (h.2 c0).2.2.2.2.2⟩)


def rgRV (n : Int) (b : Bool) (k : Nat) : Regs := mkR 24 [(0, .int .i64 n), (4, .slc b 0 1 0 k none)]
theorem rpv_1 (n : Int) (b : Bool) (rs : List (List AVal))
    (h1 : decide ((List.length rs + 1) * 1 ≤ 140737488355328 ∧ List.length rs + 1 ≤ 9223372036854775807) = true)
    (h2 : decide (n ≥ 128) = true) :
    TripN Try.prog 0 (loopNo Try.f56 0) (rgRV n b (List.length rs)) ([rows true 1 rs]) (AExit.normal) (mkR 24 [(0, iI (IntKind.wrap IntKind.i64 (Int.tdiv n 128))), (4, slc (b && false) 0 1 0 (List.length rs + 1) none)]) ([rows true 1 (rs ++ [[int IntKind.u8 (IntKind.wrap IntKind.u8 (IntKind.wrap IntKind.i64 (128 + Int.tmod n 128)))]])]) :=
  evalT (st := St.mk (rgRV n b (List.length rs)) ([rows true 1 rs]) ([Dec.br true]) []) (st' := St.mk (mkR 24 [(0, iI (IntKind.wrap IntKind.i64 (Int.tdiv n 128))), (4, slc (b && false) 2 1 0 (List.length rs + 1) none), (7, iI n), (8, tt true), (9, slc b 0 1 0 (List.length rs) none), (10, iI n), (11, iI (Int.tmod n 128)), (12, iI (IntKind.wrap IntKind.i64 (128 + Int.tmod n 128))), (13, int IntKind.u8 (IntKind.wrap IntKind.u8 (IntKind.wrap IntKind.i64 (128 + Int.tmod n 128)))), (14, slc false 1 1 0 1 (some 1)), (15, slc (b && false) 2 1 0 (List.length rs + 1) none), (16, iI n), (17, iI (IntKind.wrap IntKind.i64 (Int.tdiv n 128)))]) ([dead, rows true 1 [[int IntKind.u8 (IntKind.wrap IntKind.u8 (IntKind.wrap IntKind.i64 (128 + Int.tmod n 128)))]], rows true 1 (rs ++ [[int IntKind.u8 (IntKind.wrap IntKind.u8 (IntKind.wrap IntKind.i64 (128 + Int.tmod n 128)))]])]) ([]) (tr 1 ++ ((decide (List.length rs = List.length rs) = true) :: ((decide ((List.length rs + 1) * 1 ≤ 140737488355328 ∧ List.length rs + 1 ≤ 9223372036854775807) = true) :: (tr 3 ++ ((decide (n ≥ 128) = true) :: [])))))) followed (by kernel_rfl) (allP_of (trC 1 ⟨decide_eq_true rfl, ⟨h1, (trC 3 ⟨h2, trivial⟩)⟩⟩)) (keepM 24 [0, 4]) ([2]) (by kernel_rfl) (by kernel_rfl) (by kernel_rfl)

theorem rpv_2 (n : Int) (b : Bool) (rs : List (List AVal))
    (h1 : decide (n ≥ 128) = false) :
    TripN Try.prog 0 (loopNo Try.f56 0) (rgRV n b (List.length rs)) ([rows true 1 rs]) (AExit.exit 0) (mkR 24 [(0, iI n), (4, slc b 0 1 0 (List.length rs) none)]) ([rows true 1 rs]) :=
  evalT (st := St.mk (rgRV n b (List.length rs)) ([rows true 1 rs]) ([Dec.br false]) []) (st' := St.mk (mkR 24 [(0, iI n), (4, slc b 0 1 0 (List.length rs) none), (7, iI n), (8, tt false)]) ([rows true 1 rs]) ([]) ((decide (n ≥ 128) = false) :: [])) followed (by kernel_rfl) (allP_of ⟨h1, trivial⟩) (keepM 24 [0, 4]) ([0]) (by kernel_rfl) (by kernel_rfl) (by kernel_rfl)

def rpv_T (n : Int) (b : Bool) (rs : List (List AVal)) (Q : AExit → Regs → AState → Prop) : Prop := ((decide (n ≥ 128) = true) → (decide ((List.length rs + 1) * 1 ≤ 140737488355328 ∧ List.length rs + 1 ≤ 9223372036854775807) = true) ∧ Q (AExit.normal) (mkR 24 [(0, iI (IntKind.wrap IntKind.i64 (Int.tdiv n 128))), (4, slc (b && false) 0 1 0 (List.length rs + 1) none)]) ([rows true 1 (rs ++ [[int IntKind.u8 (IntKind.wrap IntKind.u8 (IntKind.wrap IntKind.i64 (128 + Int.tmod n 128)))]])])) ∧ ((decide (n ≥ 128) = false) → Q (AExit.exit 0) (mkR 24 [(0, iI n), (4, slc b 0 1 0 (List.length rs) none)]) ([rows true 1 rs]))
theorem rpv_wp (n : Int) (b : Bool) (rs : List (List AVal)) {Q : AExit → Regs → AState → Prop} (h : rpv_T n b rs Q) : ∃ e rg' σ', TripN Try.prog 0 (loopNo Try.f56 0) (rgRV n b (List.length rs)) ([rows true 1 rs]) e rg' σ' ∧ Q e rg' σ' :=
  brE (fun (c0 : decide (n ≥ 128) = true) => ⟨_, _, _, rpv_1 n b rs ((h.1 c0).1) (c0), (h.1 c0).2⟩) (fun (c0 : decide (n ≥ 128) = false) => ⟨_, _, _, rpv_2 n b rs (c0), (h.2 c0)⟩)


theorem rputv_1 (n m : Int) (b : Bool) (rs : List (List AVal))
    (h1 : decide (n < 0) = true) :
    FOk Try.prog 56 ([iI n]) ([]) (tuple [str (ByteArray.mk #[]), iI 1]) ([]) :=
  (evalF_ok followed Try.func56 (by kernel_rfl) (show evalF Try.prog Try.f56 ([iI n]) ([]) ([Dec.br true]) = .ok (FRes.mk (tuple [str (ByteArray.mk #[]), iI 1]) ([]) ((decide (n < 0) = true) :: [])) by kernel_rfl) (allP_of ⟨h1, trivial⟩)).move ([]) (by kernel_rfl) (by kernel_rfl) (by kernel_rfl)

theorem rputv_2 (n m : Int) (b : Bool) (rs : List (List AVal))
    (h1 : (List.all (List.take (List.length rs + 1) (rs ++ [[int IntKind.u8 (IntKind.wrap IntKind.u8 m)]])) fun r => areKinds [Kind.int IntKind.u8] r) = true)
    (h2 : decide (0 + (List.length rs + 1) ≤ List.length (rs ++ [[int IntKind.u8 (IntKind.wrap IntKind.u8 m)]])) = true)
    (h3 : (List.all (List.take (List.length rs + 1) (rs ++ [[int IntKind.u8 (IntKind.wrap IntKind.u8 m)]])) fun r => List.all r oneCell) = true)
    (h4 : decide ((List.length rs + 1) * 1 ≤ 140737488355328 ∧ List.length rs + 1 ≤ 9223372036854775807) = true)
    (h5 : TripN Try.prog 0 (Code.loop (loopNo Try.f56 0)) (mkR 24 [(0, iI n), (4, slc true 0 1 0 0 none)]) [rows true 1 []] (AExit.exit 0) (mkR 24 [(0, iI m), (4, slc b 0 1 0 (List.length rs) none)]) [rows true 1 rs])
    (h6 : decide (n < 0) = false) :
    FOk Try.prog 56 ([iI n]) ([]) (tuple [str (rowBytes (List.take (List.length rs + 1) (rs ++ [[int IntKind.u8 (IntKind.wrap IntKind.u8 m)]]))), iI 0]) ([]) :=
  (evalF_ok followed Try.func56 (by kernel_rfl) (show evalF Try.prog Try.f56 ([iI n]) ([]) ([Dec.br false, Dec.place 4 1 true, Dec.compact (keepM 24 [0, 4]) [0], Dec.loop (AExit.exit 0) (rgRV m b (List.length rs)) [rows true 1 rs]]) = .ok (FRes.mk (tuple [str (rowBytes (List.take (List.length rs + 1) (rs ++ [[int IntKind.u8 (IntKind.wrap IntKind.u8 m)]]))), iI 0]) ([dead, rows true 1 [[int IntKind.u8 (IntKind.wrap IntKind.u8 m)]], rows true 1 (rs ++ [[int IntKind.u8 (IntKind.wrap IntKind.u8 m)]])]) (((List.all (List.take (List.length rs + 1) (rs ++ [[int IntKind.u8 (IntKind.wrap IntKind.u8 m)]])) fun r => areKinds [Kind.int IntKind.u8] r) = true) :: ((decide (0 + (List.length rs + 1) ≤ List.length (rs ++ [[int IntKind.u8 (IntKind.wrap IntKind.u8 m)]])) = true) :: (((List.all (List.take (List.length rs + 1) (rs ++ [[int IntKind.u8 (IntKind.wrap IntKind.u8 m)]])) fun r => List.all r oneCell) = true) :: ((decide (List.length rs = List.length rs) = true) :: ((decide ((List.length rs + 1) * 1 ≤ 140737488355328 ∧ List.length rs + 1 ≤ 9223372036854775807) = true) :: (tr 2 ++ ((Owed.loop (owed Try.prog 0) (loopNo Try.f56 0) (mkR 24 [(0, iI n), (4, slc true 0 1 0 0 none)]) [rows true 1 []] (AExit.exit 0) (mkR 24 [(0, iI m), (4, slc b 0 1 0 (List.length rs) none)]) [rows true 1 rs]) :: ((decide (n < 0) = false) :: []))))))))) by kernel_rfl) (allP_of ⟨h1, ⟨h2, ⟨h3, ⟨decide_eq_true rfl, ⟨h4, (trC 2 ⟨h5, ⟨h6, trivial⟩⟩)⟩⟩⟩⟩⟩)).move ([]) (by kernel_rfl) (by kernel_rfl) (by kernel_rfl)

def rputv_T (n m : Int) (b : Bool) (rs : List (List AVal)) (Q : AVal → AState → Prop) : Prop := ((decide (n < 0) = true) → Q (tuple [str (ByteArray.mk #[]), iI 1]) ([])) ∧ ((decide (n < 0) = false) → (TripN Try.prog 0 (Code.loop (loopNo Try.f56 0)) (mkR 24 [(0, iI n), (4, slc true 0 1 0 0 none)]) [rows true 1 []] (AExit.exit 0) (mkR 24 [(0, iI m), (4, slc b 0 1 0 (List.length rs) none)]) [rows true 1 rs]) ∧ (decide ((List.length rs + 1) * 1 ≤ 140737488355328 ∧ List.length rs + 1 ≤ 9223372036854775807) = true) ∧ ((List.all (List.take (List.length rs + 1) (rs ++ [[int IntKind.u8 (IntKind.wrap IntKind.u8 m)]])) fun r => List.all r oneCell) = true) ∧ (decide (0 + (List.length rs + 1) ≤ List.length (rs ++ [[int IntKind.u8 (IntKind.wrap IntKind.u8 m)]])) = true) ∧ ((List.all (List.take (List.length rs + 1) (rs ++ [[int IntKind.u8 (IntKind.wrap IntKind.u8 m)]])) fun r => areKinds [Kind.int IntKind.u8] r) = true) ∧ Q (tuple [str (rowBytes (List.take (List.length rs + 1) (rs ++ [[int IntKind.u8 (IntKind.wrap IntKind.u8 m)]]))), iI 0]) ([]))
theorem rputv_wp (n m : Int) (b : Bool) (rs : List (List AVal)) {Q : AVal → AState → Prop} (h : rputv_T n m b rs Q) : ∃ r σ', FOk Try.prog 56 ([iI n]) ([]) r σ' ∧ Q r σ' :=
  brE (fun (c0 : decide (n < 0) = true) => ⟨_, _, rputv_1 n m b rs (c0), (h.1 c0)⟩) (fun (c0 : decide (n < 0) = false) => ⟨_, _, rputv_2 n m b rs ((h.2 c0).2.2.2.2.1) ((h.2 c0).2.2.2.1) ((h.2 c0).2.2.1) ((h.2 c0).2.1) ((h.2 c0).1) (c0), (h.2 c0).2.2.2.2.2⟩)


theorem chk0_1 :
    FOk Try.prog 63 ([ptr 0 2 0 0]) ([trows 94 false 2 [[nilp, fsl true 0 [] (some 0)]]]) (tuple []) ([rows false 2 [[ptr 0 2 0 0, fsl true 0 [] (some 0)]]]) :=
  (evalF_ok followed Try.func63 (by kernel_rfl) (show evalF Try.prog Try.f63 ([ptr 0 2 0 0]) ([trows 94 false 2 [[nilp, fsl true 0 [] (some 0)]]]) ([Dec.br true]) = .ok (FRes.mk (tuple []) ([rows false 2 [[ptr 0 2 0 0, fsl true 0 [] (some 0)]]]) (tr 3 ++ ((some Extern.AbiNoEscape.same = some Extern.AbiNoEscape.same) :: (tr 4 ++ [])))) by kernel_rfl) (allP_of (trC 3 ⟨rfl, (trC 4 trivial)⟩))).move ([0]) (by kernel_rfl) (by kernel_rfl) (by kernel_rfl)

theorem chk1_1 (bs : List (List AVal)) :
    FOk Try.prog 63 ([ptr 0 2 0 0]) ([rows false 2 [[ptr 0 2 0 0, slc false 1 1 0 (List.length bs) none]], trows 5 true 1 bs]) (tuple []) ([rows false 2 [[ptr 0 2 0 0, slc false 1 1 0 (List.length bs) none]], trows 5 true 1 bs]) :=
  (evalF_ok followed Try.func63 (by kernel_rfl) (show evalF Try.prog Try.f63 ([ptr 0 2 0 0]) ([rows false 2 [[ptr 0 2 0 0, slc false 1 1 0 (List.length bs) none]], trows 5 true 1 bs]) ([Dec.br false, Dec.br false]) = .ok (FRes.mk (tuple []) ([rows false 2 [[ptr 0 2 0 0, slc false 1 1 0 (List.length bs) none]], trows 5 true 1 bs]) ((false = false) :: (tr 2 ++ ((false = false) :: (tr 2 ++ []))))) by kernel_rfl) (allP_of ⟨rfl, (trC 2 ⟨rfl, (trC 2 trivial)⟩)⟩)).move ([0, 1]) (by kernel_rfl) (by kernel_rfl) (by kernel_rfl)

end Go.L12
end

section
set_option linter.unusedVariables false
set_option linter.unusedSimpArgs false
set_option maxRecDepth 100000
namespace Go.L12
open Go Go.Abs Go.Abs.AVal Go.Abs.AObj Go.Proofs

abbrev vrows (n : Nat) : List (List AVal) := (vbl n).map fun b => brow b.toNat
theorem vrows_ge {n : Nat} (h : 128 ≤ n) : vrows n = brow (n % 128 + 128) :: vrows (n / 128) := by
  unfold vrows
  rw [vbl_ge h, List.map_cons]
  congr 3
  rw [UInt8.toNat_ofNat']; omega
theorem vrows_lt {n : Nat} (h : n < 128) : vrows n = [brow n] := by
  unfold vrows
  rw [vbl_lt h, List.map_cons, List.map_nil]
  congr 3
  rw [UInt8.toNat_ofNat']; omega
theorem fdiv128 (n : Nat) : Int.fdiv (n : Int) 128 = ((n / 128 : Nat) : Int) := by
  rw [Int.fdiv_eq_ediv_of_nonneg _ (by omega)]; omega
theorem tdiv128 (n : Nat) : Int.tdiv (n : Int) 128 = ((n / 128 : Nat) : Int) := by
  rw [Int.tdiv_eq_ediv_of_nonneg (by omega)]; omega
theorem tmod128 (n : Nat) : Int.tmod (n : Int) 128 = ((n % 128 : Nat) : Int) := by
  rw [Int.tmod_eq_emod_of_nonneg (by omega)]; omega

theorem pv_rounds : ∀ (n : Nat), n < 2 ^ 63 → ∀ (b : Bool) (rs : List (List AVal)), rs.length < 1000 → (n ≠ 0 → rs.length + (vbl n).length ≤ 1000) → ∃ m b' rs', LoopRun Try.prog 0 (loopNo Try.f70 0) (rgPV n b rs.length) [.rows true 1 rs] (.exit 0) (rgPV ((m : Nat) : Int) b' rs'.length) [.rows true 1 rs'] ∧
    rs' ++ [brow m] = rs ++ vrows n ∧ m < 128 := by
  intro n
  induction n using Nat.strongRecOn with
  | _ n ih =>
    intro hn b rs h1 h2
    by_cases hlt : n < 128
    · refine ⟨n, b, rs, .done (TripN.wp (pv_wp n b rs ?_)) (by simp), by rw [vrows_lt hlt], hlt⟩
      unfold pv_T
      exact ⟨fun h => absurd (of_decide_eq_true h) (by omega), fun _ => ⟨rfl, rfl, rfl⟩⟩
    · have hl : (vbl n).length = (vbl (n / 128)).length + 1 := by rw [vbl_ge (by omega)]; rfl
      have := h2 (by omega)
      have hpos : 0 < (vbl (n / 128)).length := List.length_pos_iff.2 (vbl_ne _)
      obtain ⟨m, b', rs', r, e, hm⟩ := ih (n / 128) (by omega) (by omega) (b && false) (rs ++ [brow (n % 128 + 128)]) (by simp; omega) (fun _ => by simp; omega)
      refine ⟨m, b', rs', .more (TripN.wp (pv_wp n b rs ?_)) r, by rw [e, vrows_ge (n := n) (by omega)]; simp, hm⟩
      unfold pv_T
      refine ⟨fun _ => ⟨decide_eq_true ⟨by omega, by omega⟩, ?_⟩, fun h => absurd (of_decide_eq_false h) (by omega)⟩
      rw [or_u8, fdiv128]
      exact ⟨rfl, by simp [rgPV], rfl⟩
theorem rpv_rounds : ∀ (n : Nat), n < 2 ^ 63 → ∀ (b : Bool) (rs : List (List AVal)), rs.length < 1000 → (n ≠ 0 → rs.length + (vbl n).length ≤ 1000) → ∃ m b' rs', LoopRun Try.prog 0 (loopNo Try.f56 0) (rgRV n b rs.length) [.rows true 1 rs] (.exit 0) (rgRV ((m : Nat) : Int) b' rs'.length) [.rows true 1 rs'] ∧
    rs' ++ [brow m] = rs ++ vrows n ∧ m < 128 := by
  intro n
  induction n using Nat.strongRecOn with
  | _ n ih =>
    intro hn b rs h1 h2
    by_cases hlt : n < 128
    · refine ⟨n, b, rs, .done (TripN.wp (rpv_wp n b rs ?_)) (by simp), by rw [vrows_lt hlt], hlt⟩
      unfold rpv_T
      exact ⟨fun h => absurd (of_decide_eq_true h) (by omega), fun _ => ⟨rfl, rfl, rfl⟩⟩
    · have hl : (vbl n).length = (vbl (n / 128)).length + 1 := by rw [vbl_ge (by omega)]; rfl
      have := h2 (by omega)
      have hpos : 0 < (vbl (n / 128)).length := List.length_pos_iff.2 (vbl_ne _)
      obtain ⟨m, b', rs', r, e, hm⟩ := ih (n / 128) (by omega) (by omega) (b && false) (rs ++ [brow (n % 128 + 128)]) (by simp; omega) (fun _ => by simp; omega)
      refine ⟨m, b', rs', .more (TripN.wp (rpv_wp n b rs ?_)) r, by rw [e, vrows_ge (n := n) (by omega)]; simp, hm⟩
      unfold rpv_T
      refine ⟨fun _ => ⟨decide_eq_true ⟨by omega, by omega⟩, ?_⟩, fun h => absurd (of_decide_eq_false h) (by omega)⟩
      rw [tdiv128, tmod128, wrapS (n := 128 + _) (by omega) (by omega), wrapU8, wrapS (by omega) (by omega), show (128 + ((n % 128 : Nat) : Int)) % 256 = ((n % 128 + 128 : Nat) : Int) by omega]
      exact ⟨rfl, by simp [rgRV], rfl⟩

theorem rows_fine {rs : List (List AVal)} {m n : Nat} (hm : m < 128) (e : rs ++ [brow m] = vrows n) : (rs ++ [[.int .u8 (IntKind.wrap .u8 (m : Int))]]) = vrows n ∧ (rs ++ [[int .u8 (IntKind.wrap .u8 (m : Int))]]).take (rs.length + 1) = vrows n := by
  have e2 : (rs ++ [[int .u8 (IntKind.wrap .u8 (m : Int))]]) = vrows n := by rw [← e, wrapU8, show (m : Int) % 256 = (m : Int) by omega]
  exact ⟨e2, by rw [e2, List.take_of_length_le]; rw [← e]; simp⟩
theorem vrows_all (n : Nat) : ((vrows n).all fun r => r.all oneCell) = true ∧ ((vrows n).all fun r => areKinds [.int .u8] r) = true := by
  constructor <;> (unfold vrows; rw [List.all_map]; exact List.all_eq_true.2 fun b _ => rfl)
theorem putv_ok (n : Int) (h0 : 0 ≤ n) (h1 : n < 9223372036854775808) : FOk Try.prog 70 [.int .i64 n] [] (.tuple [.str (bS (vbl n.toNat)), .int .i64 0]) [] := by
  obtain ⟨k, rfl⟩ : ∃ k : Nat, n = (k : Int) := ⟨n.toNat, by omega⟩
  have hk : k < 2 ^ 63 := by omega
  have h9 := vbl_len9 hk
  obtain ⟨m, b, rs, r, e, hm⟩ := pv_rounds k hk true [] (by simp) (fun _ => by simp; omega)
  rw [List.nil_append] at e
  obtain ⟨e1, e2⟩ := rows_fine hm e
  have hl : rs.length + 1 = (vbl k).length := by have := congrArg List.length e; simpa using this
  obtain ⟨a1, a2⟩ := vrows_all k
  refine FOk.wp (putv_wp k m b rs ?_)
  unfold putv_T
  rw [e2, e1]
  refine ⟨fun h => absurd (of_decide_eq_true h) (by omega), fun _ => ⟨r.trip, decide_eq_true ⟨by omega, by omega⟩, a1, decide_eq_true (by simp [vrows]; omega), a2, ?_, rfl⟩⟩
  rw [rowBytes_map, Int.toNat_natCast]
theorem putv_neg (n : Int) (h0 : n < 0) : FOk Try.prog 70 [.int .i64 n] [] (.tuple [.str (bS []), .int .i64 1]) [] :=
  putv_1 n 0 true [] (decide_eq_true h0)
theorem rputv_ok (n : Int) (h0 : 0 ≤ n) (h1 : n < 9223372036854775808) : FOk Try.prog 56 [.int .i64 n] [] (.tuple [.str (bS (vbl n.toNat)), .int .i64 0]) [] := by
  obtain ⟨k, rfl⟩ : ∃ k : Nat, n = (k : Int) := ⟨n.toNat, by omega⟩
  have hk : k < 2 ^ 63 := by omega
  have h9 := vbl_len9 hk
  obtain ⟨m, b, rs, r, e, hm⟩ := rpv_rounds k hk true [] (by simp) (fun _ => by simp; omega)
  rw [List.nil_append] at e
  obtain ⟨e1, e2⟩ := rows_fine hm e
  have hl : rs.length + 1 = (vbl k).length := by have := congrArg List.length e; simpa using this
  obtain ⟨a1, a2⟩ := vrows_all k
  refine FOk.wp (rputv_wp k m b rs ?_)
  unfold rputv_T
  rw [e2, e1]
  refine ⟨fun h => absurd (of_decide_eq_true h) (by omega), fun _ => ⟨r.trip, decide_eq_true ⟨by omega, by omega⟩, a1, decide_eq_true (by simp [vrows]; omega), a2, ?_, rfl⟩⟩
  rw [rowBytes_map, Int.toNat_natCast]
def rgVa (s : ByteArray) (n k i : Int) : Regs := mkR 41 [(0, .str s), (2, .int .i64 n), (8, .int .i64 k), (9, .int .i64 i)]
theorem va_1 (s : ByteArray) (n k i : Int)
    (h1 : decide (i > 0) = true)
    (h2 : (byteAt s i == 0) = true)
    (h3 : decide (0 ≤ i ∧ i < (↑(ByteArray.size s) : Int)) = true)
    (h4 : decide (byteAt s i < 128) = true)
    (h5 : decide (0 ≤ IntKind.wrap IntKind.i64 (7 * i)) = true)
    (h6 : decide (i < k) = true) :
    TripN Try.prog 0 (loopNo Try.f69 0) (rgVa s n k i) ([]) (AExit.ret) (mkR 41 [(2, iI 0), (3, iI 0), (4, iI 10)]) ([]) :=
  evalT (st := St.mk (rgVa s n k i) ([]) ([Dec.br true, Dec.br true, Dec.br true, Dec.br true]) []) (st' := St.mk (mkR 41 [(0, str s), (2, iI 0), (3, iI 0), (4, iI 10), (5, iI i), (8, iI k), (9, iI i), (10, tt true), (11, iI i), (12, iI n), (13, str s), (14, iI i), (15, int IntKind.u8 (byteAt s i)), (16, int IntKind.u8 (bits BinOp.and IntKind.u8 (byteAt s i) 127)), (17, iI (IntKind.wrap IntKind.i64 (bits BinOp.and IntKind.u8 (byteAt s i) 127))), (18, iI i), (19, iI (IntKind.wrap IntKind.i64 (7 * i))), (20, iI (IntKind.wrap IntKind.i64 (IntKind.wrap IntKind.i64 (bits BinOp.and IntKind.u8 (byteAt s i) 127) * 2 ^ min (Int.toNat (IntKind.wrap IntKind.i64 (7 * i))) 64))), (21, iI (bits BinOp.or IntKind.i64 n (IntKind.wrap IntKind.i64 (IntKind.wrap IntKind.i64 (bits BinOp.and IntKind.u8 (byteAt s i) 127) * 2 ^ min (Int.toNat (IntKind.wrap IntKind.i64 (7 * i))) 64)))), (22, str s), (23, iI i), (24, int IntKind.u8 (byteAt s i)), (25, tt true), (26, str s), (27, iI i), (28, int IntKind.u8 (byteAt s i)), (29, bool (byteAt s i == 0)), (30, tt true), (31, iI i), (32, bool (decide (i > 0))), (33, tt true)]) ([]) ([]) ((decide (i > 0) = true) :: (((byteAt s i == 0) = true) :: ((decide (0 ≤ i ∧ i < (↑(ByteArray.size s) : Int)) = true) :: ((decide (byteAt s i < 128) = true) :: ((decide (0 ≤ i ∧ i < (↑(ByteArray.size s) : Int)) = true) :: ((decide (0 ≤ IntKind.wrap IntKind.i64 (7 * i)) = true) :: ((decide (0 ≤ i ∧ i < (↑(ByteArray.size s) : Int)) = true) :: ((decide (i < k) = true) :: []))))))))) followed (by kernel_rfl) (allP_of ⟨h1, ⟨h2, ⟨h3, ⟨h4, ⟨h3, ⟨h5, ⟨h3, ⟨h6, trivial⟩⟩⟩⟩⟩⟩⟩⟩) (keepM 41 [2, 3, 4]) ([]) (by kernel_rfl) (by kernel_rfl) (by kernel_rfl)

theorem va_2 (s : ByteArray) (n k i : Int)
    (h1 : decide (i > 0) = false)
    (h2 : (byteAt s i == 0) = true)
    (h3 : decide (0 ≤ i ∧ i < (↑(ByteArray.size s) : Int)) = true)
    (h4 : decide (byteAt s i < 128) = true)
    (h5 : decide (0 ≤ IntKind.wrap IntKind.i64 (7 * i)) = true)
    (h6 : decide (i < k) = true) :
    TripN Try.prog 0 (loopNo Try.f69 0) (rgVa s n k i) ([]) (AExit.ret) (mkR 41 [(2, iI (bits BinOp.or IntKind.i64 n (IntKind.wrap IntKind.i64 (IntKind.wrap IntKind.i64 (bits BinOp.and IntKind.u8 (byteAt s i) 127) * 2 ^ min (Int.toNat (IntKind.wrap IntKind.i64 (7 * i))) 64)))), (3, iI (IntKind.wrap IntKind.i64 (i + 1))), (4, iI 0)]) ([]) :=
  evalT (st := St.mk (rgVa s n k i) ([]) ([Dec.br true, Dec.br true, Dec.br true, Dec.br false]) []) (st' := St.mk (mkR 41 [(0, str s), (2, iI (bits BinOp.or IntKind.i64 n (IntKind.wrap IntKind.i64 (IntKind.wrap IntKind.i64 (bits BinOp.and IntKind.u8 (byteAt s i) 127) * 2 ^ min (Int.toNat (IntKind.wrap IntKind.i64 (7 * i))) 64)))), (3, iI (IntKind.wrap IntKind.i64 (i + 1))), (4, iI 0), (5, iI i), (8, iI k), (9, iI i), (10, tt true), (11, iI i), (12, iI n), (13, str s), (14, iI i), (15, int IntKind.u8 (byteAt s i)), (16, int IntKind.u8 (bits BinOp.and IntKind.u8 (byteAt s i) 127)), (17, iI (IntKind.wrap IntKind.i64 (bits BinOp.and IntKind.u8 (byteAt s i) 127))), (18, iI i), (19, iI (IntKind.wrap IntKind.i64 (7 * i))), (20, iI (IntKind.wrap IntKind.i64 (IntKind.wrap IntKind.i64 (bits BinOp.and IntKind.u8 (byteAt s i) 127) * 2 ^ min (Int.toNat (IntKind.wrap IntKind.i64 (7 * i))) 64))), (21, iI (bits BinOp.or IntKind.i64 n (IntKind.wrap IntKind.i64 (IntKind.wrap IntKind.i64 (bits BinOp.and IntKind.u8 (byteAt s i) 127) * 2 ^ min (Int.toNat (IntKind.wrap IntKind.i64 (7 * i))) 64)))), (22, str s), (23, iI i), (24, int IntKind.u8 (byteAt s i)), (25, tt true), (26, str s), (27, iI i), (28, int IntKind.u8 (byteAt s i)), (29, bool (byteAt s i == 0)), (30, tt true), (31, iI i), (32, bool (decide (i > 0))), (33, tt false), (34, iI (bits BinOp.or IntKind.i64 n (IntKind.wrap IntKind.i64 (IntKind.wrap IntKind.i64 (bits BinOp.and IntKind.u8 (byteAt s i) 127) * 2 ^ min (Int.toNat (IntKind.wrap IntKind.i64 (7 * i))) 64)))), (35, iI i), (36, iI (IntKind.wrap IntKind.i64 (i + 1)))]) ([]) ([]) ((decide (i > 0) = false) :: (((byteAt s i == 0) = true) :: ((decide (0 ≤ i ∧ i < (↑(ByteArray.size s) : Int)) = true) :: ((decide (byteAt s i < 128) = true) :: ((decide (0 ≤ i ∧ i < (↑(ByteArray.size s) : Int)) = true) :: ((decide (0 ≤ IntKind.wrap IntKind.i64 (7 * i)) = true) :: ((decide (0 ≤ i ∧ i < (↑(ByteArray.size s) : Int)) = true) :: ((decide (i < k) = true) :: []))))))))) followed (by kernel_rfl) (allP_of ⟨h1, ⟨h2, ⟨h3, ⟨h4, ⟨h3, ⟨h5, ⟨h3, ⟨h6, trivial⟩⟩⟩⟩⟩⟩⟩⟩) (keepM 41 [2, 3, 4]) ([]) (by kernel_rfl) (by kernel_rfl) (by kernel_rfl)

theorem va_3 (s : ByteArray) (n k i : Int)
    (h1 : (byteAt s i == 0) = false)
    (h2 : decide (0 ≤ i ∧ i < (↑(ByteArray.size s) : Int)) = true)
    (h3 : decide (byteAt s i < 128) = true)
    (h4 : decide (0 ≤ IntKind.wrap IntKind.i64 (7 * i)) = true)
    (h5 : decide (i < k) = true) :
    TripN Try.prog 0 (loopNo Try.f69 0) (rgVa s n k i) ([]) (AExit.ret) (mkR 41 [(2, iI (bits BinOp.or IntKind.i64 n (IntKind.wrap IntKind.i64 (IntKind.wrap IntKind.i64 (bits BinOp.and IntKind.u8 (byteAt s i) 127) * 2 ^ min (Int.toNat (IntKind.wrap IntKind.i64 (7 * i))) 64)))), (3, iI (IntKind.wrap IntKind.i64 (i + 1))), (4, iI 0)]) ([]) :=
  evalT (st := St.mk (rgVa s n k i) ([]) ([Dec.br true, Dec.br true, Dec.br false]) []) (st' := St.mk (mkR 41 [(0, str s), (2, iI (bits BinOp.or IntKind.i64 n (IntKind.wrap IntKind.i64 (IntKind.wrap IntKind.i64 (bits BinOp.and IntKind.u8 (byteAt s i) 127) * 2 ^ min (Int.toNat (IntKind.wrap IntKind.i64 (7 * i))) 64)))), (3, iI (IntKind.wrap IntKind.i64 (i + 1))), (4, iI 0), (5, iI i), (8, iI k), (9, iI i), (10, tt true), (11, iI i), (12, iI n), (13, str s), (14, iI i), (15, int IntKind.u8 (byteAt s i)), (16, int IntKind.u8 (bits BinOp.and IntKind.u8 (byteAt s i) 127)), (17, iI (IntKind.wrap IntKind.i64 (bits BinOp.and IntKind.u8 (byteAt s i) 127))), (18, iI i), (19, iI (IntKind.wrap IntKind.i64 (7 * i))), (20, iI (IntKind.wrap IntKind.i64 (IntKind.wrap IntKind.i64 (bits BinOp.and IntKind.u8 (byteAt s i) 127) * 2 ^ min (Int.toNat (IntKind.wrap IntKind.i64 (7 * i))) 64))), (21, iI (bits BinOp.or IntKind.i64 n (IntKind.wrap IntKind.i64 (IntKind.wrap IntKind.i64 (bits BinOp.and IntKind.u8 (byteAt s i) 127) * 2 ^ min (Int.toNat (IntKind.wrap IntKind.i64 (7 * i))) 64)))), (22, str s), (23, iI i), (24, int IntKind.u8 (byteAt s i)), (25, tt true), (26, str s), (27, iI i), (28, int IntKind.u8 (byteAt s i)), (29, bool (byteAt s i == 0)), (30, tt false), (31, tuple []), (32, tuple []), (33, tt false), (34, iI (bits BinOp.or IntKind.i64 n (IntKind.wrap IntKind.i64 (IntKind.wrap IntKind.i64 (bits BinOp.and IntKind.u8 (byteAt s i) 127) * 2 ^ min (Int.toNat (IntKind.wrap IntKind.i64 (7 * i))) 64)))), (35, iI i), (36, iI (IntKind.wrap IntKind.i64 (i + 1)))]) ([]) ([]) (((byteAt s i == 0) = false) :: ((decide (0 ≤ i ∧ i < (↑(ByteArray.size s) : Int)) = true) :: ((decide (byteAt s i < 128) = true) :: ((decide (0 ≤ i ∧ i < (↑(ByteArray.size s) : Int)) = true) :: ((decide (0 ≤ IntKind.wrap IntKind.i64 (7 * i)) = true) :: ((decide (0 ≤ i ∧ i < (↑(ByteArray.size s) : Int)) = true) :: ((decide (i < k) = true) :: [])))))))) followed (by kernel_rfl) (allP_of ⟨h1, ⟨h2, ⟨h3, ⟨h2, ⟨h4, ⟨h2, ⟨h5, trivial⟩⟩⟩⟩⟩⟩⟩) (keepM 41 [2, 3, 4]) ([]) (by kernel_rfl) (by kernel_rfl) (by kernel_rfl)

theorem va_4 (s : ByteArray) (n k i : Int)
    (h1 : decide (byteAt s i < 128) = false)
    (h2 : decide (0 ≤ i ∧ i < (↑(ByteArray.size s) : Int)) = true)
    (h3 : decide (0 ≤ IntKind.wrap IntKind.i64 (7 * i)) = true)
    (h4 : decide (i < k) = true) :
    TripN Try.prog 0 (loopNo Try.f69 0) (rgVa s n k i) ([]) (AExit.normal) (mkR 41 [(0, str s), (2, iI (bits BinOp.or IntKind.i64 n (IntKind.wrap IntKind.i64 (IntKind.wrap IntKind.i64 (bits BinOp.and IntKind.u8 (byteAt s i) 127) * 2 ^ min (Int.toNat (IntKind.wrap IntKind.i64 (7 * i))) 64)))), (8, iI k), (9, iI (IntKind.wrap IntKind.i64 (i + 1)))]) ([]) :=
  evalT (st := St.mk (rgVa s n k i) ([]) ([Dec.br true, Dec.br false]) []) (st' := St.mk (mkR 41 [(0, str s), (2, iI (bits BinOp.or IntKind.i64 n (IntKind.wrap IntKind.i64 (IntKind.wrap IntKind.i64 (bits BinOp.and IntKind.u8 (byteAt s i) 127) * 2 ^ min (Int.toNat (IntKind.wrap IntKind.i64 (7 * i))) 64)))), (5, iI i), (8, iI k), (9, iI (IntKind.wrap IntKind.i64 (i + 1))), (10, tt true), (11, iI i), (12, iI n), (13, str s), (14, iI i), (15, int IntKind.u8 (byteAt s i)), (16, int IntKind.u8 (bits BinOp.and IntKind.u8 (byteAt s i) 127)), (17, iI (IntKind.wrap IntKind.i64 (bits BinOp.and IntKind.u8 (byteAt s i) 127))), (18, iI i), (19, iI (IntKind.wrap IntKind.i64 (7 * i))), (20, iI (IntKind.wrap IntKind.i64 (IntKind.wrap IntKind.i64 (bits BinOp.and IntKind.u8 (byteAt s i) 127) * 2 ^ min (Int.toNat (IntKind.wrap IntKind.i64 (7 * i))) 64))), (21, iI (bits BinOp.or IntKind.i64 n (IntKind.wrap IntKind.i64 (IntKind.wrap IntKind.i64 (bits BinOp.and IntKind.u8 (byteAt s i) 127) * 2 ^ min (Int.toNat (IntKind.wrap IntKind.i64 (7 * i))) 64)))), (22, str s), (23, iI i), (24, int IntKind.u8 (byteAt s i)), (25, tt false), (37, iI (IntKind.wrap IntKind.i64 (i + 1)))]) ([]) ([]) ((decide (byteAt s i < 128) = false) :: ((decide (0 ≤ i ∧ i < (↑(ByteArray.size s) : Int)) = true) :: ((decide (0 ≤ IntKind.wrap IntKind.i64 (7 * i)) = true) :: ((decide (0 ≤ i ∧ i < (↑(ByteArray.size s) : Int)) = true) :: ((decide (i < k) = true) :: [])))))) followed (by kernel_rfl) (allP_of ⟨h1, ⟨h2, ⟨h3, ⟨h2, ⟨h4, trivial⟩⟩⟩⟩⟩) (keepM 41 [0, 2, 8, 9]) ([]) (by kernel_rfl) (by kernel_rfl) (by kernel_rfl)

theorem va_5 (s : ByteArray) (n k i : Int)
    (h1 : decide (i < k) = false) :
    TripN Try.prog 0 (loopNo Try.f69 0) (rgVa s n k i) ([]) (AExit.exit 0) (mkR 41 [(0, str s), (2, iI n), (8, iI k), (9, iI i)]) ([]) :=
  evalT (st := St.mk (rgVa s n k i) ([]) ([Dec.br false]) []) (st' := St.mk (mkR 41 [(0, str s), (2, iI n), (8, iI k), (9, iI i), (10, tt false)]) ([]) ([]) ((decide (i < k) = false) :: [])) followed (by kernel_rfl) (allP_of ⟨h1, trivial⟩) (keepM 41 [0, 2, 8, 9]) ([]) (by kernel_rfl) (by kernel_rfl) (by kernel_rfl)

def va_T (s : ByteArray) (n k i : Int) (Q : AExit → Regs → AState → Prop) : Prop := ((decide (i < k) = true) → (decide (0 ≤ i ∧ i < (↑(ByteArray.size s) : Int)) = true) ∧ (decide (0 ≤ IntKind.wrap IntKind.i64 (7 * i)) = true) ∧ ((decide (byteAt s i < 128) = true) → (((byteAt s i == 0) = true) → ((decide (i > 0) = true) → Q (AExit.ret) (mkR 41 [(2, iI 0), (3, iI 0), (4, iI 10)]) ([])) ∧ ((decide (i > 0) = false) → Q (AExit.ret) (mkR 41 [(2, iI (bits BinOp.or IntKind.i64 n (IntKind.wrap IntKind.i64 (IntKind.wrap IntKind.i64 (bits BinOp.and IntKind.u8 (byteAt s i) 127) * 2 ^ min (Int.toNat (IntKind.wrap IntKind.i64 (7 * i))) 64)))), (3, iI (IntKind.wrap IntKind.i64 (i + 1))), (4, iI 0)]) ([]))) ∧ (((byteAt s i == 0) = false) → Q (AExit.ret) (mkR 41 [(2, iI (bits BinOp.or IntKind.i64 n (IntKind.wrap IntKind.i64 (IntKind.wrap IntKind.i64 (bits BinOp.and IntKind.u8 (byteAt s i) 127) * 2 ^ min (Int.toNat (IntKind.wrap IntKind.i64 (7 * i))) 64)))), (3, iI (IntKind.wrap IntKind.i64 (i + 1))), (4, iI 0)]) ([]))) ∧ ((decide (byteAt s i < 128) = false) → Q (AExit.normal) (mkR 41 [(0, str s), (2, iI (bits BinOp.or IntKind.i64 n (IntKind.wrap IntKind.i64 (IntKind.wrap IntKind.i64 (bits BinOp.and IntKind.u8 (byteAt s i) 127) * 2 ^ min (Int.toNat (IntKind.wrap IntKind.i64 (7 * i))) 64)))), (8, iI k), (9, iI (IntKind.wrap IntKind.i64 (i + 1)))]) ([]))) ∧ ((decide (i < k) = false) → Q (AExit.exit 0) (mkR 41 [(0, str s), (2, iI n), (8, iI k), (9, iI i)]) ([]))
theorem va_wp (s : ByteArray) (n k i : Int) {Q : AExit → Regs → AState → Prop} (h : va_T s n k i Q) : ∃ e rg' σ', TripN Try.prog 0 (loopNo Try.f69 0) (rgVa s n k i) ([]) e rg' σ' ∧ Q e rg' σ' :=
  brE (fun (c0 : decide (i < k) = true) => brE (fun (c1 : decide (byteAt s i < 128) = true) => brE (fun (c2 : (byteAt s i == 0) = true) => brE (fun (c3 : decide (i > 0) = true) => ⟨_, _, _, va_1 s n k i (c3) (c2) ((h.1 c0).1) (c1) ((h.1 c0).2.1) (c0), ((((h.1 c0).2.2.1 c1).1 c2).1 c3)⟩) (fun (c3 : decide (i > 0) = false) => ⟨_, _, _, va_2 s n k i (c3) (c2) ((h.1 c0).1) (c1) ((h.1 c0).2.1) (c0), ((((h.1 c0).2.2.1 c1).1 c2).2 c3)⟩)) (fun (c2 : (byteAt s i == 0) = false) => ⟨_, _, _, va_3 s n k i (c2) ((h.1 c0).1) (c1) ((h.1 c0).2.1) (c0), (((h.1 c0).2.2.1 c1).2 c2)⟩)) (fun (c1 : decide (byteAt s i < 128) = false) => ⟨_, _, _, va_4 s n k i (c1) ((h.1 c0).1) ((h.1 c0).2.1) (c0), ((h.1 c0).2.2.2 c1)⟩)) (fun (c0 : decide (i < k) = false) => ⟨_, _, _, va_5 s n k i (c0), (h.2 c0)⟩)


theorem varE_1 (s : ByteArray) (n k i : Int)
    (h1 : decide ((↑(ByteArray.size s) : Int) < 9) = true)
    (h2 : TripN Try.prog 0 (Code.loop (loopNo Try.f69 0)) (mkR 41 [(0, str s), (2, iI 0), (8, iI (imin (↑(ByteArray.size s) : Int) 9)), (9, iI 0)]) [] (AExit.exit 0) (mkR 41 [(0, str s), (2, iI n), (8, iI k), (9, iI i)]) []) :
    FOk Try.prog 69 ([str s]) ([]) (tuple [iI 0, iI 0, iI 5]) ([]) :=
  (evalF_ok followed Try.func69 (by kernel_rfl) (show evalF Try.prog Try.f69 ([str s]) ([]) ([Dec.compact (keepM 41 [0, 2, 8, 9]) [], Dec.loop (AExit.exit 0) (rgVa s n k i) [], Dec.br true]) = .ok (FRes.mk (tuple [iI 0, iI 0, iI 5]) ([]) ((decide ((↑(ByteArray.size s) : Int) < 9) = true) :: ((Owed.loop (owed Try.prog 0) (loopNo Try.f69 0) (mkR 41 [(0, str s), (2, iI 0), (8, iI (imin (↑(ByteArray.size s) : Int) 9)), (9, iI 0)]) [] (AExit.exit 0) (mkR 41 [(0, str s), (2, iI n), (8, iI k), (9, iI i)]) []) :: []))) by kernel_rfl) (allP_of ⟨h1, ⟨h2, trivial⟩⟩)).move ([]) (by kernel_rfl) (by kernel_rfl) (by kernel_rfl)

theorem varE_2 (s : ByteArray) (n k i : Int)
    (h1 : decide ((↑(ByteArray.size s) : Int) < 9) = false)
    (h2 : TripN Try.prog 0 (Code.loop (loopNo Try.f69 0)) (mkR 41 [(0, str s), (2, iI 0), (8, iI (imin (↑(ByteArray.size s) : Int) 9)), (9, iI 0)]) [] (AExit.exit 0) (mkR 41 [(0, str s), (2, iI n), (8, iI k), (9, iI i)]) []) :
    FOk Try.prog 69 ([str s]) ([]) (tuple [iI 0, iI 0, iI 10]) ([]) :=
  (evalF_ok followed Try.func69 (by kernel_rfl) (show evalF Try.prog Try.f69 ([str s]) ([]) ([Dec.compact (keepM 41 [0, 2, 8, 9]) [], Dec.loop (AExit.exit 0) (rgVa s n k i) [], Dec.br false]) = .ok (FRes.mk (tuple [iI 0, iI 0, iI 10]) ([]) ((decide ((↑(ByteArray.size s) : Int) < 9) = false) :: ((Owed.loop (owed Try.prog 0) (loopNo Try.f69 0) (mkR 41 [(0, str s), (2, iI 0), (8, iI (imin (↑(ByteArray.size s) : Int) 9)), (9, iI 0)]) [] (AExit.exit 0) (mkR 41 [(0, str s), (2, iI n), (8, iI k), (9, iI i)]) []) :: []))) by kernel_rfl) (allP_of ⟨h1, ⟨h2, trivial⟩⟩)).move ([]) (by kernel_rfl) (by kernel_rfl) (by kernel_rfl)

def varE_T (s : ByteArray) (n k i : Int) (Q : AVal → AState → Prop) : Prop := (TripN Try.prog 0 (Code.loop (loopNo Try.f69 0)) (mkR 41 [(0, str s), (2, iI 0), (8, iI (imin (↑(ByteArray.size s) : Int) 9)), (9, iI 0)]) [] (AExit.exit 0) (mkR 41 [(0, str s), (2, iI n), (8, iI k), (9, iI i)]) []) ∧ ((decide ((↑(ByteArray.size s) : Int) < 9) = true) → Q (tuple [iI 0, iI 0, iI 5]) ([])) ∧ ((decide ((↑(ByteArray.size s) : Int) < 9) = false) → Q (tuple [iI 0, iI 0, iI 10]) ([]))
theorem varE_wp (s : ByteArray) (n k i : Int) {Q : AVal → AState → Prop} (h : varE_T s n k i Q) : ∃ r σ', FOk Try.prog 69 ([str s]) ([]) r σ' ∧ Q r σ' :=
  brE (fun (c0 : decide ((↑(ByteArray.size s) : Int) < 9) = true) => ⟨_, _, varE_1 s n k i (c0) (h.1), (h.2.1 c0)⟩) (fun (c0 : decide ((↑(ByteArray.size s) : Int) < 9) = false) => ⟨_, _, varE_2 s n k i (c0) (h.1), (h.2.2 c0)⟩)


theorem varR_1 (s : ByteArray) (n k e : Int)
    (h1 : TripN Try.prog 0 (Code.loop (loopNo Try.f69 0)) (mkR 41 [(0, str s), (2, iI 0), (8, iI (imin (↑(ByteArray.size s) : Int) 9)), (9, iI 0)]) [] AExit.ret (mkR 41 [(2, iI n), (3, iI k), (4, iI e)]) []) :
    FOk Try.prog 69 ([str s]) ([]) (tuple [iI n, iI k, iI e]) ([]) :=
  (evalF_ok followed Try.func69 (by kernel_rfl) (show evalF Try.prog Try.f69 ([str s]) ([]) ([Dec.compact (keepM 41 [0, 2, 8, 9]) [], Dec.loop AExit.ret (mkR 41 [(2, iI n), (3, iI k), (4, iI e)]) []]) = .ok (FRes.mk (tuple [iI n, iI k, iI e]) ([]) ((Owed.loop (owed Try.prog 0) (loopNo Try.f69 0) (mkR 41 [(0, str s), (2, iI 0), (8, iI (imin (↑(ByteArray.size s) : Int) 9)), (9, iI 0)]) [] AExit.ret (mkR 41 [(2, iI n), (3, iI k), (4, iI e)]) []) :: [])) by kernel_rfl) (allP_of ⟨h1, trivial⟩)).move ([]) (by kernel_rfl) (by kernel_rfl) (by kernel_rfl)

def varR_T (s : ByteArray) (n k e : Int) (Q : AVal → AState → Prop) : Prop := (TripN Try.prog 0 (Code.loop (loopNo Try.f69 0)) (mkR 41 [(0, str s), (2, iI 0), (8, iI (imin (↑(ByteArray.size s) : Int) 9)), (9, iI 0)]) [] AExit.ret (mkR 41 [(2, iI n), (3, iI k), (4, iI e)]) []) ∧ Q (tuple [iI n, iI k, iI e]) ([])
theorem varR_wp (s : ByteArray) (n k e : Int) {Q : AVal → AState → Prop} (h : varR_T s n k e Q) : ∃ r σ', FOk Try.prog 69 ([str s]) ([]) r σ' ∧ Q r σ' :=
  ⟨_, _, varR_1 s n k e (h.1), h.2⟩


end Go.L12
end

section
set_option linter.unusedVariables false
set_option linter.unusedSimpArgs false
set_option maxRecDepth 100000
namespace Go.L12
open Go Go.Abs Go.Proofs

theorem shl_val {c i : Nat} (hc : c < 128) (hi : i ≤ 8) : IntKind.wrap .i64 ((c : Int) * 2 ^ (min (IntKind.wrap .i64 (7 * (i : Int))).toNat 64)) = ((c * 2 ^ (7 * i) : Nat) : Int) := by
  rw [wrapS (n := 7 * (i : Int)) (by omega) (by omega)]
  have e : min (7 * (i : Int)).toNat 64 = 7 * i := by omega
  rw [e]
  have hp : (2 : Nat) ^ (7 * i) ≤ 2 ^ 56 := Nat.pow_le_pow_right (by omega) (by omega)
  have hm : c * 2 ^ (7 * i) ≤ 127 * 2 ^ 56 := Nat.mul_le_mul (by omega) hp
  have e2 : (c : Int) * 2 ^ (7 * i) = ((c * 2 ^ (7 * i) : Nat) : Int) := by simp
  rw [e2]
  exact wrapS (by omega) (by omega)
theorem or_val {acc c i : Nat} (ha : acc < 2 ^ (7 * i)) (hc : c < 128) (hi : i ≤ 8) : bits .or .i64 (acc : Int) ((c * 2 ^ (7 * i) : Nat) : Int) = ((acc + c * 2 ^ (7 * i) : Nat) : Int) := by
  have hp : (2 : Nat) ^ (7 * i) ≤ 2 ^ 56 := Nat.pow_le_pow_right (by omega) (by omega)
  have hm : c * 2 ^ (7 * i) ≤ 127 * 2 ^ 56 := Nat.mul_le_mul (by omega) hp
  rw [bits_or64 (by omega) (by omega), or_add ha]
theorem acc_lt {acc c i : Nat} (ha : acc < 2 ^ (7 * i)) (hc : c < 128) : acc + c * 2 ^ (7 * i) < 2 ^ (7 * (i + 1)) := by
  rw [show 7 * (i + 1) = 7 * i + 7 by omega, Nat.pow_add, show (2 : Nat) ^ 7 = 128 by rfl]
  have : c * 2 ^ (7 * i) ≤ 127 * 2 ^ (7 * i) := Nat.mul_le_mul_right _ (by omega)
  omega

def VEnd (f : Func) (l : List UInt8) (rg : Nat → Regs) (rt : Nat × Nat × Nat → Regs) (r0 : Regs) (x : Nat × Nat × Nat) : Prop :=
  (∃ a, LoopRun Try.prog 0 (loopNo f 0) r0 [] (.exit 0) (rg a) [] ∧ x = (if l.length < 9 then (0, 0, 5) else (0, 0, 10))) ∨ LoopRun Try.prog 0 (loopNo f 0) r0 [] .ret (rt x) []
theorem VEnd.step {f : Func} {l : List UInt8} {rg : Nat → Regs} {rt : Nat × Nat × Nat → Regs} {r0 r1 : Regs} {x : Nat × Nat × Nat} (t : TripN Try.prog 0 (loopNo f 0) r0 [] .normal r1 []) (h : VEnd f l rg rt r1 x) : VEnd f l rg rt r0 x := by
  rcases h with ⟨a, r, e⟩ | r
  · exact .inl ⟨a, .more t r, e⟩
  · exact .inr (.more t r)

theorem va_rounds (s : ByteArray) : ∀ (d i acc : Nat), i + d = min (lB s).length 9 → acc < 2 ^ (7 * i) →
    VEnd Try.f69 (lB s) (fun a => rgVa s (a : Int) ((min (lB s).length 9 : Nat) : Int) ((min (lB s).length 9 : Nat) : Int)) (fun x => mkR 41 [(2, .int .i64 (x.1 : Int)), (3, .int .i64 (x.2.1 : Int)), (4, .int .i64 (x.2.2 : Int))])
      (rgVa s (acc : Int) ((min (lB s).length 9 : Nat) : Int) (i : Int)) (rdGo (lB s) d i acc)
  | 0, i, acc, hi, ha => by
    refine .inl ⟨acc, ?_, rfl⟩
    have : i = min (lB s).length 9 := by omega
    subst this
    refine .done (TripN.wp (va_wp s acc _ _ ?_)) (by simp)
    unfold va_T
    exact ⟨fun h => absurd (of_decide_eq_true h) (by omega), fun _ => ⟨rfl, rfl, rfl⟩⟩
  | d + 1, i, acc, hi, ha => by
    have hi8 : i ≤ 8 := by omega
    have hil : i < (lB s).length := by omega
    have hsz := lB_length s
    have hb : byteAt s (i : Int) = ((((lB s).getD i 0).toNat : Nat) : Int) := by rw [byteAt_lB, Int.toNat_natCast]
    simp only [rdGo]
    generalize hB : (lB s).getD i 0 = B at hb
    have hB256 : B.toNat < 256 := B.toNat_lt
    have hc : B.toNat % 128 < 128 := Nat.mod_lt _ (by omega)
    have hv : bits .or .i64 (acc : Int) (IntKind.wrap .i64 (IntKind.wrap .i64 (bits .and .u8 (byteAt s (i : Int)) 127) * 2 ^ (min (IntKind.wrap .i64 (7 * (i : Int))).toNat 64))) = ((acc + B.toNat % 128 * 2 ^ (7 * i) : Nat) : Int) := by
      rw [hb, and_u8 _ hB256, wrapS (n := ((B.toNat % 128 : Nat) : Int)) (by omega) (by omega), shl_val hc hi8, or_val ha hc hi8]
    have w7 : IntKind.wrap .i64 (7 * (i : Int)) = 7 * (i : Int) := wrapS (by omega) (by omega)
    have w1 : IntKind.wrap .i64 ((i : Int) + 1) = ((i + 1 : Nat) : Int) := by rw [wrapS (by omega) (by omega)]; omega
    have key : ∀ (Q : AExit → Regs → AState → Prop), (B.toNat < 128 → B.toNat = 0 ∧ 0 < i → Q .ret (mkR 41 [(2, .int .i64 0), (3, .int .i64 0), (4, .int .i64 10)]) []) →
        (B.toNat < 128 → ¬ (B.toNat = 0 ∧ 0 < i) → Q .ret (mkR 41 [(2, .int .i64 ((acc + B.toNat % 128 * 2 ^ (7 * i) : Nat) : Int)), (3, .int .i64 ((i + 1 : Nat) : Int)), (4, .int .i64 0)]) []) →
        (¬ B.toNat < 128 → Q .normal (rgVa s ((acc + B.toNat % 128 * 2 ^ (7 * i) : Nat) : Int) ((min (lB s).length 9 : Nat) : Int) ((i + 1 : Nat) : Int)) []) → va_T s (acc : Int) ((min (lB s).length 9 : Nat) : Int) (i : Int) Q := by
      intro Q q1 q2 q3
      unfold va_T
      rw [hv, w1, w7, hb]
      refine ⟨fun _ => ⟨decide_eq_true (by omega), decide_eq_true (by omega), fun h => ⟨fun h0 => ⟨fun hp => ?_, fun hp => ?_⟩, fun h0 => ?_⟩, fun h => ?_⟩, fun h => absurd (of_decide_eq_false h) (by omega)⟩
      · exact q1 (by have := of_decide_eq_true h; omega) ⟨by have := eq_of_beq h0; omega, by have := of_decide_eq_true hp; omega⟩
      · exact q2 (by have := of_decide_eq_true h; omega) (fun ⟨_, hp'⟩ => by have := of_decide_eq_false hp; omega)
      · exact q2 (by have := of_decide_eq_true h; omega) (fun ⟨h0', _⟩ => by rw [h0'] at h0; simp at h0)
      · exact q3 (by have := of_decide_eq_false h; omega)
    by_cases h1 : B.toNat < 128
    · rw [if_pos h1]
      by_cases h2 : B.toNat = 0 ∧ 0 < i
      · rw [if_pos h2]
        exact .inr (.done (TripN.wp (va_wp s acc _ i (key _ (fun _ _ => ⟨rfl, rfl, rfl⟩) (fun _ h => absurd h2 h) (fun h => absurd h1 h)))) (by simp))
      · rw [if_neg h2]
        exact .inr (.done (TripN.wp (va_wp s acc _ i (key _ (fun _ h => absurd h h2) (fun _ _ => ⟨rfl, rfl, rfl⟩) (fun h => absurd h1 h)))) (by simp))
    · rw [if_neg h1]
      exact VEnd.step (TripN.wp (va_wp s acc _ i (key _ (fun h => absurd h h1) (fun h => absurd h h1) (fun _ => ⟨rfl, rfl, rfl⟩)))) (va_rounds s d (i + 1) _ (by omega) (acc_lt ha hc))

theorem var_ok (s : ByteArray) : FOk Try.prog 69 [.str s] [] (.tuple [.int .i64 ((rdV (lB s)).1 : Int), .int .i64 ((rdV (lB s)).2.1 : Int), .int .i64 ((rdV (lB s)).2.2 : Int)]) [] := by
  have hmin : imin (s.size : Int) 9 = ((min (lB s).length 9 : Nat) : Int) := by
    rw [lB_length]; unfold imin; split <;> omega
  have h := va_rounds s (min (lB s).length 9) 0 0 (by omega) (by simp)
  rw [show rdGo (lB s) (min (lB s).length 9) 0 0 = rdV (lB s) from rfl] at h
  rcases h with ⟨a, r, e⟩ | r
  · refine FOk.wp (varE_wp s a ((min (lB s).length 9 : Nat) : Int) ((min (lB s).length 9 : Nat) : Int) ?_)
    unfold varE_T
    rw [hmin, e]
    refine ⟨r.trip, fun h => ?_, fun h => ?_⟩
    · rw [if_pos (by have := of_decide_eq_true h; rw [lB_length]; omega)]; exact ⟨rfl, rfl⟩
    · rw [if_neg (by have := of_decide_eq_false h; rw [lB_length]; omega)]; exact ⟨rfl, rfl⟩
  · refine FOk.wp (varR_wp s ((rdV (lB s)).1 : Int) ((rdV (lB s)).2.1 : Int) ((rdV (lB s)).2.2 : Int) ?_)
    unfold varR_T
    rw [hmin]
    exact ⟨r.trip, rfl, rfl⟩

end Go.L12
end

section
set_option linter.unusedVariables false
set_option maxRecDepth 100000
namespace Go.L12
open Go Go.Abs Go.Abs.AVal Go.Abs.AObj Go.Proofs

theorem ws0_1 (s : ByteArray)
    (h1 : decide (List.length (byteRows s) * 1 ≤ 140737488355328 ∧ List.length (byteRows s) ≤ 9223372036854775807) = true) :
    FOk Try.prog 52 ([ptr 0 2 0 0, str s]) ([trows 94 false 2 [[nilp, fsl true 0 [] (some 0)]]]) (tuple [iI (↑(ByteArray.size s) : Int), nili]) ([rows false 2 [[ptr 0 2 0 0, slc (List.isEmpty (byteRows s)) 1 1 0 (List.length (byteRows s)) none]], trows 5 true 1 (Src.rs (Abs.Src.mk (byteRows s) true []))]) :=
  (evalF_ok followed Try.func52 (by kernel_rfl) (show evalF Try.prog Try.f52 ([ptr 0 2 0 0, str s]) ([trows 94 false 2 [[nilp, fsl true 0 [] (some 0)]]]) ([Dec.use [0] [ptr 0 2 0 0] [trows 94 false 2 [[nilp, fsl true 0 [] (some 0)]]] (tuple []) [rows false 2 [[ptr 0 2 0 0, fsl true 0 [] (some 0)]]]]) = .ok (FRes.mk (tuple [iI (↑(ByteArray.size s) : Int), nili]) ([rows false 2 [[ptr 0 2 0 0, slc (List.isEmpty (byteRows s)) 1 1 0 (List.length (byteRows s)) none]], trows 5 true 1 (Src.rs (Abs.Src.mk (byteRows s) true []))]) (tr 2 ++ ((decide (List.length (byteRows s) * 1 ≤ 140737488355328 ∧ List.length (byteRows s) ≤ 9223372036854775807) = true) :: (tr 2 ++ ((oU 1 63 [0] [ptr 0 2 0 0] [trows 94 false 2 [[nilp, fsl true 0 [] (some 0)]]] [ptr 0 2 0 0] [trows 94 false 2 [[nilp, fsl true 0 [] (some 0)]]] (tuple []) [rows false 2 [[ptr 0 2 0 0, fsl true 0 [] (some 0)]]]) :: []))))) by kernel_rfl) (allP_of (trC 2 ⟨h1, (trC 2 ⟨⟨(@Go.L12.chk0_1), rfl, rfl, rfl⟩, trivial⟩)⟩))).move ([0, 1]) (by kernel_rfl) (by kernel_rfl) (by kernel_rfl)

theorem ws1_1 (s : ByteArray) (bs : List (List AVal))
    (h1 : decide ((List.length bs + List.length (byteRows s)) * 1 ≤ 140737488355328 ∧ List.length bs + List.length (byteRows s) ≤ 9223372036854775807) = true) :
    FOk Try.prog 52 ([ptr 0 2 0 0, str s]) ([rows false 2 [[ptr 0 2 0 0, slc false 1 1 0 (List.length bs) none]], trows 5 true 1 bs]) (tuple [iI (↑(ByteArray.size s) : Int), nili]) ([rows false 2 [[ptr 0 2 0 0, slc false 2 1 0 (List.length bs + List.length (byteRows s)) none]], dead, trows 5 true 1 (bs ++ byteRows s)]) :=
  (evalF_ok followed Try.func52 (by kernel_rfl) (show evalF Try.prog Try.f52 ([ptr 0 2 0 0, str s]) ([rows false 2 [[ptr 0 2 0 0, slc false 1 1 0 (List.length bs) none]], trows 5 true 1 bs]) ([Dec.use [0, 1] [ptr 0 2 0 0] [rows false 2 [[ptr 0 2 0 0, slc false 1 1 0 (List.length bs) none]], trows 5 true 1 bs] (tuple []) [rows false 2 [[ptr 0 2 0 0, slc false 1 1 0 (List.length bs) none]], trows 5 true 1 bs]]) = .ok (FRes.mk (tuple [iI (↑(ByteArray.size s) : Int), nili]) ([rows false 2 [[ptr 0 2 0 0, slc false 2 1 0 (List.length bs + List.length (byteRows s)) none]], dead, trows 5 true 1 (bs ++ byteRows s)]) (tr 2 ++ ((decide (List.length bs = List.length bs) = true) :: ((decide ((List.length bs + List.length (byteRows s)) * 1 ≤ 140737488355328 ∧ List.length bs + List.length (byteRows s) ≤ 9223372036854775807) = true) :: (tr 2 ++ ((oU 2 63 [0, 1] [ptr 0 2 0 0] [rows false 2 [[ptr 0 2 0 0, slc false 1 1 0 (List.length bs) none]], trows 5 true 1 bs] [ptr 0 2 0 0] [rows false 2 [[ptr 0 2 0 0, slc false 1 1 0 (List.length bs) none]], trows 5 true 1 bs] (tuple []) [rows false 2 [[ptr 0 2 0 0, slc false 1 1 0 (List.length bs) none]], trows 5 true 1 bs]) :: [])))))) by kernel_rfl) (allP_of (trC 2 ⟨decide_eq_true rfl, ⟨h1, (trC 2 ⟨⟨(@Go.L12.chk1_1 (bs)), rfl, rfl, rfl⟩, trivial⟩)⟩⟩))).move ([0, 1, 2]) (by kernel_rfl) (by kernel_rfl) (by kernel_rfl)

theorem bst_1 (bs : List (List AVal))
    (h1 : decide (0 < (↑(List.length bs) : Int) ∧ (↑(List.length bs) : Int) ≤ (↑(List.length bs) : Int) ∧ (↑(List.length bs) : Int) ≤ 9223372036854775807) = true)
    (h2 : List.all (List.take (Int.toNat (↑(List.length bs) : Int)) bs) u8Row = true)
    (h3 : decide (0 < List.length bs) = true) :
    FOk Try.prog 54 ([ptr 0 2 0 0]) ([rows false 2 [[ptr 0 2 0 0, slc false 1 1 0 (List.length bs) none]], trows 5 true 1 bs]) (str (rowBytes (List.take (Int.toNat (↑(List.length bs) : Int)) bs))) ([rows false 2 [[ptr 0 2 0 0, slc false 1 1 0 (List.length bs) none]], dead]) :=
  (evalF_ok followed Try.func54 (by kernel_rfl) (show evalF Try.prog Try.f54 ([ptr 0 2 0 0]) ([rows false 2 [[ptr 0 2 0 0, slc false 1 1 0 (List.length bs) none]], trows 5 true 1 bs]) ([]) = .ok (FRes.mk (str (rowBytes (List.take (Int.toNat (↑(List.length bs) : Int)) bs))) ([rows false 2 [[ptr 0 2 0 0, slc false 1 1 0 (List.length bs) none]], dead]) (tr 4 ++ ((decide (0 < (↑(List.length bs) : Int) ∧ (↑(List.length bs) : Int) ≤ (↑(List.length bs) : Int) ∧ (↑(List.length bs) : Int) ≤ 9223372036854775807) = true) :: ((List.all (List.take (Int.toNat (↑(List.length bs) : Int)) bs) u8Row = true) :: (tr 24 ++ ((decide (0 < List.length bs) = true) :: (tr 11 ++ []))))))) by kernel_rfl) (allP_of (trC 4 ⟨h1, ⟨h2, (trC 24 ⟨h3, (trC 11 trivial)⟩)⟩⟩))).move ([0, 1]) (by kernel_rfl) (by kernel_rfl) (by kernel_rfl)

theorem shp_1 (s p : ByteArray)
    (h1 : decide (0 ≤ (↑0 : Int) ∧ (↑0 : Int) ≤ (↑(ByteArray.size p) : Int) ∧ (↑(ByteArray.size p) : Int) ≤ (↑(ByteArray.size s) : Int)) = true)
    (h2 : decide ((↑(ByteArray.size s) : Int) ≥ (↑(ByteArray.size p) : Int)) = true) :
    FOk Try.prog 65 ([str s, str p]) ([]) (bool (ByteArray.toList (ByteArray.extract s 0 (Int.toNat (↑(ByteArray.size p) : Int))) == ByteArray.toList p)) ([]) :=
  (evalF_ok followed Try.func65 (by kernel_rfl) (show evalF Try.prog Try.f65 ([str s, str p]) ([]) ([Dec.br true]) = .ok (FRes.mk (bool (ByteArray.toList (ByteArray.extract s 0 (Int.toNat (↑(ByteArray.size p) : Int))) == ByteArray.toList p)) ([]) ((decide (0 ≤ (↑0 : Int) ∧ (↑0 : Int) ≤ (↑(ByteArray.size p) : Int) ∧ (↑(ByteArray.size p) : Int) ≤ (↑(ByteArray.size s) : Int)) = true) :: ((decide ((↑(ByteArray.size s) : Int) ≥ (↑(ByteArray.size p) : Int)) = true) :: []))) by kernel_rfl) (allP_of ⟨h1, ⟨h2, trivial⟩⟩)).move ([]) (by kernel_rfl) (by kernel_rfl) (by kernel_rfl)

theorem shp_2 (s p : ByteArray)
    (h1 : decide ((↑(ByteArray.size s) : Int) ≥ (↑(ByteArray.size p) : Int)) = false) :
    FOk Try.prog 65 ([str s, str p]) ([]) (bool false) ([]) :=
  (evalF_ok followed Try.func65 (by kernel_rfl) (show evalF Try.prog Try.f65 ([str s, str p]) ([]) ([Dec.br false]) = .ok (FRes.mk (bool false) ([]) ((decide ((↑(ByteArray.size s) : Int) ≥ (↑(ByteArray.size p) : Int)) = false) :: [])) by kernel_rfl) (allP_of ⟨h1, trivial⟩)).move ([]) (by kernel_rfl) (by kernel_rfl) (by kernel_rfl)

def shp_T (s p : ByteArray) (Q : AVal → AState → Prop) : Prop := ((decide ((↑(ByteArray.size s) : Int) ≥ (↑(ByteArray.size p) : Int)) = true) → (decide (0 ≤ (↑0 : Int) ∧ (↑0 : Int) ≤ (↑(ByteArray.size p) : Int) ∧ (↑(ByteArray.size p) : Int) ≤ (↑(ByteArray.size s) : Int)) = true) ∧ Q (bool (ByteArray.toList (ByteArray.extract s 0 (Int.toNat (↑(ByteArray.size p) : Int))) == ByteArray.toList p)) ([])) ∧ ((decide ((↑(ByteArray.size s) : Int) ≥ (↑(ByteArray.size p) : Int)) = false) → Q (bool false) ([]))
theorem shp_wp (s p : ByteArray) {Q : AVal → AState → Prop} (h : shp_T s p Q) : ∃ r σ', FOk Try.prog 65 ([str s, str p]) ([]) r σ' ∧ Q r σ' :=
  brE (fun (c0 : decide ((↑(ByteArray.size s) : Int) ≥ (↑(ByteArray.size p) : Int)) = true) => ⟨_, _, shp_1 s p ((h.1 c0).1) (c0), (h.1 c0).2⟩) (fun (c0 : decide ((↑(ByteArray.size s) : Int) ≥ (↑(ByteArray.size p) : Int)) = false) => ⟨_, _, shp_2 s p (c0), (h.2 c0)⟩)


theorem hp_1 (s p : ByteArray) (b : Bool)
    (h1 : FOk Try.prog 65 [str s, str p] [] (bool b) []) :
    FOk Try.prog 59 ([str s, str p]) ([]) (bool b) ([]) :=
  (evalF_ok followed Try.func59 (by kernel_rfl) (show evalF Try.prog Try.f59 ([str s, str p]) ([]) ([Dec.use [] [str s, str p] [] (bool b) []]) = .ok (FRes.mk (bool b) ([]) ((oU 0 65 [] [str s, str p] [] [str s, str p] [] (bool b) []) :: [])) by kernel_rfl) (allP_of ⟨⟨h1, rfl, rfl, rfl⟩, trivial⟩)).move ([]) (by kernel_rfl) (by kernel_rfl) (by kernel_rfl)

end Go.L12
end

section
set_option linter.unusedVariables false
set_option linter.unusedSimpArgs false
set_option maxRecDepth 100000
namespace Go.L12
open Go Go.Abs Go.Proofs

theorem hasPrefix_ok (s p : ByteArray) : FOk Try.prog 59 [.str s, .str p] [] (.bool (decide (lB p <+: lB s))) [] := by
  have h : FOk Try.prog 65 [.str s, .str p] [] (.bool (decide (lB p <+: lB s))) [] := by
    refine FOk.wp (shp_wp s p ?_)
    unfold shp_T
    refine ⟨fun h => ⟨?_, ?_, rfl⟩, fun h => ⟨?_, rfl⟩⟩
    · have := of_decide_eq_true h; exact decide_eq_true (by omega)
    · rw [toList_lB, toList_lB, lB_extract, Int.toNat_natCast, Nat.sub_zero, List.drop_zero, ← lB_length]
      congr 1
      rw [Bool.eq_iff_iff, beq_iff_eq, decide_eq_true_iff, List.prefix_iff_eq_take]
      exact eq_comm
    · have := of_decide_eq_false h
      congr 1
      symm
      refine decide_eq_false fun c => ?_
      have := c.length_le
      rw [lB_length, lB_length] at this
      omega
  exact hp_1 s p _ h
theorem ws_ok (s : ByteArray) (bs : List (List AVal)) (n : Nat) (hn : n = bs.length) (hl : (bs.length + (byteRows s).length) * 1 ≤ 140737488355328) : FOk Try.prog 52 [.ptr 0 2 0 0, .str s] [.rows false 2 [[.ptr 0 2 0 0, .slc false 1 1 0 n none]], .trows 5 true 1 bs] (.tuple [.int .i64 (s.size : Int), .nili]) [.rows false 2 [[.ptr 0 2 0 0, .slc false 2 1 0 (n + (byteRows s).length) none]], .dead, .trows 5 true 1 (bs ++ byteRows s)] := by
  subst hn
  exact ws1_1 s bs (decide_eq_true (by omega))
theorem bst_ok (l : List UInt8) (n : Nat) (hn : n = (l.map fun b => brow b.toNat).length) (h0 : 0 < l.length) (hl : l.length ≤ 140737488355328) : FOk Try.prog 54 [.ptr 0 2 0 0] [.rows false 2 [[.ptr 0 2 0 0, .slc false 1 1 0 n none]], .trows 5 true 1 (l.map fun b => brow b.toNat)] (.str (bS l)) [.rows false 2 [[.ptr 0 2 0 0, .slc false 1 1 0 n none]], .dead] := by
  subst hn
  have key := bst_1 (l.map fun b => brow b.toNat)
  rw [Int.toNat_natCast, List.take_length, List.length_map] at key
  have := key (decide_eq_true (by omega)) (by rw [List.all_eq_true]; intro x hx; obtain ⟨b, _, rfl⟩ := List.mem_map.1 hx; have := b.toNat_lt; simp [u8Row, brow]; omega) (decide_eq_true h0)
  rw [rowBytes_map] at this
  rw [List.length_map]
  exact this
end Go.L12
end

section
set_option linter.unusedVariables false
set_option maxRecDepth 100000
namespace Go.L12
open Go Go.Abs Go.Abs.AVal Go.Abs.AObj Go.Proofs
theorem right_1 (ok : Bool)
    (h1 : (!ok) = true) :
    FOk Try.prog 58 ([bool ok]) ([]) (pan 117) ([]) :=
  (evalF_ok followed Try.func58 (by kernel_rfl) (show evalF Try.prog Try.f58 ([bool ok]) ([]) ([Dec.br true]) = .ok (FRes.mk (pan 117) ([]) (((!ok) = true) :: [])) by kernel_rfl) (allP_of ⟨h1, trivial⟩)).move ([]) (by kernel_rfl) (by kernel_rfl) (by kernel_rfl)

theorem right_2 (ok : Bool)
    (h1 : (!ok) = false) :
    FOk Try.prog 58 ([bool ok]) ([]) (tuple []) ([]) :=
  (evalF_ok followed Try.func58 (by kernel_rfl) (show evalF Try.prog Try.f58 ([bool ok]) ([]) ([Dec.br false]) = .ok (FRes.mk (tuple []) ([]) (((!ok) = false) :: [])) by kernel_rfl) (allP_of ⟨h1, trivial⟩)).move ([]) (by kernel_rfl) (by kernel_rfl) (by kernel_rfl)

def right_T (ok : Bool) (Q : AVal → AState → Prop) : Prop := (((!ok) = true) → Q (pan 117) ([])) ∧ (((!ok) = false) → Q (tuple []) ([]))
theorem right_wp (ok : Bool) {Q : AVal → AState → Prop} (h : right_T ok Q) : ∃ r σ', FOk Try.prog 58 ([bool ok]) ([]) r σ' ∧ Q r σ' :=
  brE (fun (c0 : (!ok) = true) => ⟨_, _, right_1 ok (c0), (h.1 c0)⟩) (fun (c0 : (!ok) = false) => ⟨_, _, right_2 ok (c0), (h.2 c0)⟩)


theorem right_ok (b : Bool) (h : b = true) : FOk Try.prog 58 [.bool b] [] (.tuple []) [] := by
  refine FOk.wp (right_wp b ?_)
  unfold right_T
  subst h
  exact ⟨fun c => absurd c (by simp), fun _ => ⟨rfl, rfl⟩⟩
theorem right_no (b : Bool) (h : b = false) : FOk Try.prog 58 [.bool b] [] (.pan 117) [] := by
  refine FOk.wp (right_wp b ?_)
  unfold right_T
  subst h
  exact ⟨fun _ => ⟨rfl, rfl⟩, fun c => absurd c (by simp)⟩
end Go.L12
end

section
set_option linter.unusedVariables false
set_option maxRecDepth 100000
namespace Go.L12
open Go Go.Abs Go.Abs.AVal Go.Abs.AObj Go.Proofs
theorem num_1 (n : Int) (bs : List (List AVal)) (k : Nat)
    (h1 : k = List.length bs)
    (h2 : (List.length bs + List.length (byteRows (bS (vbl (Int.toNat n))))) * 1 ≤ 140737488355328)
    (h3 : decide (n ≤ 1099511627776) = true)
    (h4 : 0 ≤ n)
    (h5 : n < 9223372036854775808) :
    FOk Try.prog 68 ([ptr 0 2 0 0, iI n]) ([rows false 2 [[ptr 0 2 0 0, slc false 1 1 0 k none]], trows 5 true 1 bs]) (tuple []) ([rows false 2 [[ptr 0 2 0 0, slc false 2 1 0 (k + List.length (byteRows (bS (vbl (Int.toNat n))))) none]], dead, trows 5 true 1 (bs ++ byteRows (bS (vbl (Int.toNat n))))]) :=
  (evalF_ok followed Try.func68 (by kernel_rfl) (show evalF Try.prog Try.f68 ([ptr 0 2 0 0, iI n]) ([rows false 2 [[ptr 0 2 0 0, slc false 1 1 0 k none]], trows 5 true 1 bs]) ([Dec.use [] [iI n] [] (tuple [str (bS (vbl (Int.toNat n))), iI 0]) [], Dec.br true, Dec.use [] [bool (decide (n ≤ 1099511627776))] [] (tuple []) [], Dec.use [0, 1] [ptr 0 2 0 0, str (bS (vbl (Int.toNat n)))] [rows false 2 [[ptr 0 2 0 0, slc false 1 1 0 k none]], trows 5 true 1 bs] (tuple [iI (↑(ByteArray.size (bS (vbl (Int.toNat n)))) : Int), nili]) [rows false 2 [[ptr 0 2 0 0, slc false 2 1 0 (k + List.length (byteRows (bS (vbl (Int.toNat n))))) none]], dead, trows 5 true 1 (bs ++ byteRows (bS (vbl (Int.toNat n))))]]) = .ok (FRes.mk (tuple []) ([rows false 2 [[ptr 0 2 0 0, slc false 2 1 0 (k + List.length (byteRows (bS (vbl (Int.toNat n))))) none]], dead, trows 5 true 1 (bs ++ byteRows (bS (vbl (Int.toNat n))))]) ((oU 2 52 [0, 1] [ptr 0 2 0 0, str (bS (vbl (Int.toNat n)))] [rows false 2 [[ptr 0 2 0 0, slc false 1 1 0 k none]], trows 5 true 1 bs] [ptr 0 2 0 0, str (bS (vbl (Int.toNat n)))] [rows false 2 [[ptr 0 2 0 0, slc false 1 1 0 k none]], trows 5 true 1 bs] (tuple [iI (↑(ByteArray.size (bS (vbl (Int.toNat n)))) : Int), nili]) [rows false 2 [[ptr 0 2 0 0, slc false 2 1 0 (k + List.length (byteRows (bS (vbl (Int.toNat n))))) none]], dead, trows 5 true 1 (bs ++ byteRows (bS (vbl (Int.toNat n))))]) :: ((oU 2 58 [] [bool (decide (n ≤ 1099511627776))] [rows false 2 [[ptr 0 2 0 0, slc false 1 1 0 k none]], trows 5 true 1 bs] [bool (decide (n ≤ 1099511627776))] [] (tuple []) []) :: (tr 1 ++ ((oU 2 70 [] [iI n] [rows false 2 [[ptr 0 2 0 0, slc false 1 1 0 k none]], trows 5 true 1 bs] [iI n] [] (tuple [str (bS (vbl (Int.toNat n))), iI 0]) []) :: []))))) by kernel_rfl) (allP_of ⟨⟨(@Go.L12.ws_ok (bS (vbl (Int.toNat n))) (bs) (k) h1 h2), rfl, rfl, rfl⟩, ⟨⟨(@Go.L12.right_ok (decide (n ≤ 1099511627776)) h3), rfl, rfl, rfl⟩, (trC 1 ⟨⟨(@Go.L12.putv_ok (n) h4 h5), rfl, rfl, rfl⟩, trivial⟩)⟩⟩)).move ([0, 1, 2]) (by kernel_rfl) (by kernel_rfl) (by kernel_rfl)

theorem num_2 (n : Int) (bs : List (List AVal)) (k : Nat)
    (h1 : decide (n ≤ 1099511627776) = false)
    (h2 : 0 ≤ n)
    (h3 : n < 9223372036854775808) :
    FOk Try.prog 68 ([ptr 0 2 0 0, iI n]) ([rows false 2 [[ptr 0 2 0 0, slc false 1 1 0 k none]], trows 5 true 1 bs]) (pan 117) ([rows false 2 [[ptr 0 2 0 0, slc false 1 1 0 k none]], trows 5 true 1 bs]) :=
  (evalF_ok followed Try.func68 (by kernel_rfl) (show evalF Try.prog Try.f68 ([ptr 0 2 0 0, iI n]) ([rows false 2 [[ptr 0 2 0 0, slc false 1 1 0 k none]], trows 5 true 1 bs]) ([Dec.use [] [iI n] [] (tuple [str (bS (vbl (Int.toNat n))), iI 0]) [], Dec.br true, Dec.use [] [bool (decide (n ≤ 1099511627776))] [] (pan 117) []]) = .ok (FRes.mk (pan 117) ([rows false 2 [[ptr 0 2 0 0, slc false 1 1 0 k none]], trows 5 true 1 bs]) ((oU 2 58 [] [bool (decide (n ≤ 1099511627776))] [rows false 2 [[ptr 0 2 0 0, slc false 1 1 0 k none]], trows 5 true 1 bs] [bool (decide (n ≤ 1099511627776))] [] (pan 117) []) :: (tr 1 ++ ((oU 2 70 [] [iI n] [rows false 2 [[ptr 0 2 0 0, slc false 1 1 0 k none]], trows 5 true 1 bs] [iI n] [] (tuple [str (bS (vbl (Int.toNat n))), iI 0]) []) :: [])))) by kernel_rfl) (allP_of ⟨⟨(@Go.L12.right_no (decide (n ≤ 1099511627776)) h1), rfl, rfl, rfl⟩, (trC 1 ⟨⟨(@Go.L12.putv_ok (n) h2 h3), rfl, rfl, rfl⟩, trivial⟩)⟩)).move ([0, 1]) (by kernel_rfl) (by kernel_rfl) (by kernel_rfl)

theorem num_3 (n : Int) (bs : List (List AVal)) (k : Nat)
    (h1 : k = List.length bs)
    (h2 : (List.length bs + List.length (byteRows (bS []))) * 1 ≤ 140737488355328)
    (h3 : false = true)
    (h4 : n < 0) :
    FOk Try.prog 68 ([ptr 0 2 0 0, iI n]) ([rows false 2 [[ptr 0 2 0 0, slc false 1 1 0 k none]], trows 5 true 1 bs]) (tuple []) ([rows false 2 [[ptr 0 2 0 0, slc false 2 1 0 k none]], dead, trows 5 true 1 (bs ++ [])]) :=
  (evalF_ok followed Try.func68 (by kernel_rfl) (show evalF Try.prog Try.f68 ([ptr 0 2 0 0, iI n]) ([rows false 2 [[ptr 0 2 0 0, slc false 1 1 0 k none]], trows 5 true 1 bs]) ([Dec.use [] [iI n] [] (tuple [str (bS []), iI 1]) [], Dec.br false, Dec.use [] [bool false] [] (tuple []) [], Dec.use [0, 1] [ptr 0 2 0 0, str (bS [])] [rows false 2 [[ptr 0 2 0 0, slc false 1 1 0 k none]], trows 5 true 1 bs] (tuple [iI 0, nili]) [rows false 2 [[ptr 0 2 0 0, slc false 2 1 0 k none]], dead, trows 5 true 1 (bs ++ [])]]) = .ok (FRes.mk (tuple []) ([rows false 2 [[ptr 0 2 0 0, slc false 2 1 0 k none]], dead, trows 5 true 1 (bs ++ [])]) ((oU 2 52 [0, 1] [ptr 0 2 0 0, str (bS [])] [rows false 2 [[ptr 0 2 0 0, slc false 1 1 0 k none]], trows 5 true 1 bs] [ptr 0 2 0 0, str (bS [])] [rows false 2 [[ptr 0 2 0 0, slc false 1 1 0 k none]], trows 5 true 1 bs] (tuple [iI 0, nili]) [rows false 2 [[ptr 0 2 0 0, slc false 2 1 0 k none]], dead, trows 5 true 1 (bs ++ [])]) :: ((oU 2 58 [] [bool false] [rows false 2 [[ptr 0 2 0 0, slc false 1 1 0 k none]], trows 5 true 1 bs] [bool false] [] (tuple []) []) :: ((false = false) :: ((oU 2 70 [] [iI n] [rows false 2 [[ptr 0 2 0 0, slc false 1 1 0 k none]], trows 5 true 1 bs] [iI n] [] (tuple [str (bS []), iI 1]) []) :: []))))) by kernel_rfl) (allP_of ⟨⟨(@Go.L12.ws_ok (bS []) (bs) (k) h1 h2), rfl, rfl, rfl⟩, ⟨⟨(@Go.L12.right_ok (false) h3), rfl, rfl, rfl⟩, ⟨rfl, ⟨⟨(@Go.L12.putv_neg (n) h4), rfl, rfl, rfl⟩, trivial⟩⟩⟩⟩)).move ([0, 1, 2]) (by kernel_rfl) (by kernel_rfl) (by kernel_rfl)

theorem num_4 (n : Int) (bs : List (List AVal)) (k : Nat)
    (h1 : false = false)
    (h2 : n < 0) :
    FOk Try.prog 68 ([ptr 0 2 0 0, iI n]) ([rows false 2 [[ptr 0 2 0 0, slc false 1 1 0 k none]], trows 5 true 1 bs]) (pan 117) ([rows false 2 [[ptr 0 2 0 0, slc false 1 1 0 k none]], trows 5 true 1 bs]) :=
  (evalF_ok followed Try.func68 (by kernel_rfl) (show evalF Try.prog Try.f68 ([ptr 0 2 0 0, iI n]) ([rows false 2 [[ptr 0 2 0 0, slc false 1 1 0 k none]], trows 5 true 1 bs]) ([Dec.use [] [iI n] [] (tuple [str (bS []), iI 1]) [], Dec.br false, Dec.use [] [bool false] [] (pan 117) []]) = .ok (FRes.mk (pan 117) ([rows false 2 [[ptr 0 2 0 0, slc false 1 1 0 k none]], trows 5 true 1 bs]) ((oU 2 58 [] [bool false] [rows false 2 [[ptr 0 2 0 0, slc false 1 1 0 k none]], trows 5 true 1 bs] [bool false] [] (pan 117) []) :: ((false = false) :: ((oU 2 70 [] [iI n] [rows false 2 [[ptr 0 2 0 0, slc false 1 1 0 k none]], trows 5 true 1 bs] [iI n] [] (tuple [str (bS []), iI 1]) []) :: [])))) by kernel_rfl) (allP_of ⟨⟨(@Go.L12.right_no (false) h1), rfl, rfl, rfl⟩, ⟨rfl, ⟨⟨(@Go.L12.putv_neg (n) h2), rfl, rfl, rfl⟩, trivial⟩⟩⟩)).move ([0, 1]) (by kernel_rfl) (by kernel_rfl) (by kernel_rfl)

def num_T (n : Int) (bs : List (List AVal)) (k : Nat) (Q : AVal → AState → Prop) : Prop := ((((0 ≤ n) ∧ (n < 9223372036854775808)) → ((((decide (n ≤ 1099511627776) = true)) → (k = List.length bs) ∧ ((List.length bs + List.length (byteRows (bS (vbl (Int.toNat n))))) * 1 ≤ 140737488355328) ∧ Q (tuple []) ([rows false 2 [[ptr 0 2 0 0, slc false 2 1 0 (k + List.length (byteRows (bS (vbl (Int.toNat n))))) none]], dead, trows 5 true 1 (bs ++ byteRows (bS (vbl (Int.toNat n))))])) ∧ (((decide (n ≤ 1099511627776) = false)) → Q (pan 117) ([rows false 2 [[ptr 0 2 0 0, slc false 1 1 0 k none]], trows 5 true 1 bs])) ∧ (((decide (n ≤ 1099511627776) = true)) ∨ ((decide (n ≤ 1099511627776) = false))))) ∧ (((n < 0)) → ((((false = true)) → (k = List.length bs) ∧ ((List.length bs + List.length (byteRows (bS []))) * 1 ≤ 140737488355328) ∧ Q (tuple []) ([rows false 2 [[ptr 0 2 0 0, slc false 2 1 0 k none]], dead, trows 5 true 1 (bs ++ [])])) ∧ (((false = false)) → Q (pan 117) ([rows false 2 [[ptr 0 2 0 0, slc false 1 1 0 k none]], trows 5 true 1 bs])) ∧ (((false = true)) ∨ ((false = false))))) ∧ (((0 ≤ n) ∧ (n < 9223372036854775808)) ∨ ((n < 0))))
theorem num_wp (n : Int) (bs : List (List AVal)) (k : Nat) {Q : AVal → AState → Prop} (h : num_T n bs k Q) : ∃ r σ', FOk Try.prog 68 ([ptr 0 2 0 0, iI n]) ([rows false 2 [[ptr 0 2 0 0, slc false 1 1 0 k none]], trows 5 true 1 bs]) r σ' ∧ Q r σ' :=
  Or.elim h.2.2 (fun (c0 : (0 ≤ n) ∧ (n < 9223372036854775808)) => Or.elim (h.1 c0).2.2 (fun (c1 : (decide (n ≤ 1099511627776) = true)) => ⟨_, _, num_1 n bs k (((h.1 c0).1 c1).1) (((h.1 c0).1 c1).2.1) (c1) (c0.1) (c0.2), ((h.1 c0).1 c1).2.2⟩) (fun (c2 : (decide (n ≤ 1099511627776) = false)) => ⟨_, _, num_2 n bs k (c2) (c0.1) (c0.2), ((h.1 c0).2.1 c2)⟩)) (fun (c3 : (n < 0)) => Or.elim (h.2.1 c3).2.2 (fun (c4 : (false = true)) => ⟨_, _, num_3 n bs k (((h.2.1 c3).1 c4).1) (((h.2.1 c3).1 c4).2.1) (c4) (c3), ((h.2.1 c3).1 c4).2.2⟩) (fun (c5 : (false = false)) => ⟨_, _, num_4 n bs k (c5) (c3), ((h.2.1 c3).2.1 c5)⟩))


theorem tkn_1 (s : ByteArray) (m : Int)
    (h1 : decide (0 ≤ (↑(Prod.fst (Prod.snd (rdV (lB s)))) : Int) ∧ (↑(Prod.fst (Prod.snd (rdV (lB s)))) : Int) ≤ (↑(ByteArray.size s) : Int) ∧ (↑(ByteArray.size s) : Int) ≤ (↑(ByteArray.size s) : Int)) = true)
    (h2 : decide ((↑(Prod.fst (rdV (lB s))) : Int) ≤ m) = true)
    (h3 : ((↑(Prod.snd (Prod.snd (rdV (lB s)))) : Int) == 0) = true) :
    FOk Try.prog 66 ([ptr 0 1 0 0, iI m]) ([rows true 1 [[str s]]]) (iI (↑(Prod.fst (rdV (lB s))) : Int)) ([rows true 1 [[str (ByteArray.extract s (Int.toNat (↑(Prod.fst (Prod.snd (rdV (lB s)))) : Int)) (Int.toNat (↑(ByteArray.size s) : Int)))]]]) :=
  (evalF_ok followed Try.func66 (by kernel_rfl) (show evalF Try.prog Try.f66 ([ptr 0 1 0 0, iI m]) ([rows true 1 [[str s]]]) ([Dec.use [] [str s] [] (tuple [iI (↑(Prod.fst (rdV (lB s))) : Int), iI (↑(Prod.fst (Prod.snd (rdV (lB s)))) : Int), iI (↑(Prod.snd (Prod.snd (rdV (lB s)))) : Int)]) [], Dec.br true, Dec.use [] [bool (decide ((↑(Prod.fst (rdV (lB s))) : Int) ≤ m))] [] (tuple []) []]) = .ok (FRes.mk (iI (↑(Prod.fst (rdV (lB s))) : Int)) ([rows true 1 [[str (ByteArray.extract s (Int.toNat (↑(Prod.fst (Prod.snd (rdV (lB s)))) : Int)) (Int.toNat (↑(ByteArray.size s) : Int)))]]]) (tr 2 ++ ((decide (0 ≤ (↑(Prod.fst (Prod.snd (rdV (lB s)))) : Int) ∧ (↑(Prod.fst (Prod.snd (rdV (lB s)))) : Int) ≤ (↑(ByteArray.size s) : Int) ∧ (↑(ByteArray.size s) : Int) ≤ (↑(ByteArray.size s) : Int)) = true) :: (tr 3 ++ ((oU 1 58 [] [bool (decide ((↑(Prod.fst (rdV (lB s))) : Int) ≤ m))] [rows true 1 [[str s]]] [bool (decide ((↑(Prod.fst (rdV (lB s))) : Int) ≤ m))] [] (tuple []) []) :: ((((↑(Prod.snd (Prod.snd (rdV (lB s)))) : Int) == 0) = true) :: ((oU 1 69 [] [str s] [rows true 1 [[str s]]] [str s] [] (tuple [iI (↑(Prod.fst (rdV (lB s))) : Int), iI (↑(Prod.fst (Prod.snd (rdV (lB s)))) : Int), iI (↑(Prod.snd (Prod.snd (rdV (lB s)))) : Int)]) []) :: (tr 3 ++ [])))))))) by kernel_rfl) (allP_of (trC 2 ⟨h1, (trC 3 ⟨⟨(@Go.L12.right_ok (decide ((↑(Prod.fst (rdV (lB s))) : Int) ≤ m)) h2), rfl, rfl, rfl⟩, ⟨h3, ⟨⟨(@Go.L12.var_ok (s)), rfl, rfl, rfl⟩, (trC 3 trivial)⟩⟩⟩)⟩))).move ([0]) (by kernel_rfl) (by kernel_rfl) (by kernel_rfl)

theorem tkn_2 (s : ByteArray) (m : Int)
    (h1 : decide ((↑(Prod.fst (rdV (lB s))) : Int) ≤ m) = false)
    (h2 : ((↑(Prod.snd (Prod.snd (rdV (lB s)))) : Int) == 0) = true) :
    FOk Try.prog 66 ([ptr 0 1 0 0, iI m]) ([rows true 1 [[str s]]]) (pan 117) ([rows true 1 [[str s]]]) :=
  (evalF_ok followed Try.func66 (by kernel_rfl) (show evalF Try.prog Try.f66 ([ptr 0 1 0 0, iI m]) ([rows true 1 [[str s]]]) ([Dec.use [] [str s] [] (tuple [iI (↑(Prod.fst (rdV (lB s))) : Int), iI (↑(Prod.fst (Prod.snd (rdV (lB s)))) : Int), iI (↑(Prod.snd (Prod.snd (rdV (lB s)))) : Int)]) [], Dec.br true, Dec.use [] [bool (decide ((↑(Prod.fst (rdV (lB s))) : Int) ≤ m))] [] (pan 117) []]) = .ok (FRes.mk (pan 117) ([rows true 1 [[str s]]]) ((oU 1 58 [] [bool (decide ((↑(Prod.fst (rdV (lB s))) : Int) ≤ m))] [rows true 1 [[str s]]] [bool (decide ((↑(Prod.fst (rdV (lB s))) : Int) ≤ m))] [] (pan 117) []) :: ((((↑(Prod.snd (Prod.snd (rdV (lB s)))) : Int) == 0) = true) :: ((oU 1 69 [] [str s] [rows true 1 [[str s]]] [str s] [] (tuple [iI (↑(Prod.fst (rdV (lB s))) : Int), iI (↑(Prod.fst (Prod.snd (rdV (lB s)))) : Int), iI (↑(Prod.snd (Prod.snd (rdV (lB s)))) : Int)]) []) :: (tr 3 ++ []))))) by kernel_rfl) (allP_of ⟨⟨(@Go.L12.right_no (decide ((↑(Prod.fst (rdV (lB s))) : Int) ≤ m)) h1), rfl, rfl, rfl⟩, ⟨h2, ⟨⟨(@Go.L12.var_ok (s)), rfl, rfl, rfl⟩, (trC 3 trivial)⟩⟩⟩)).move ([0]) (by kernel_rfl) (by kernel_rfl) (by kernel_rfl)

theorem tkn_3 (s : ByteArray) (m : Int)
    (h1 : decide (0 ≤ (↑(Prod.fst (Prod.snd (rdV (lB s)))) : Int) ∧ (↑(Prod.fst (Prod.snd (rdV (lB s)))) : Int) ≤ (↑(ByteArray.size s) : Int) ∧ (↑(ByteArray.size s) : Int) ≤ (↑(ByteArray.size s) : Int)) = true)
    (h2 : false = true)
    (h3 : ((↑(Prod.snd (Prod.snd (rdV (lB s)))) : Int) == 0) = false) :
    FOk Try.prog 66 ([ptr 0 1 0 0, iI m]) ([rows true 1 [[str s]]]) (iI (↑(Prod.fst (rdV (lB s))) : Int)) ([rows true 1 [[str (ByteArray.extract s (Int.toNat (↑(Prod.fst (Prod.snd (rdV (lB s)))) : Int)) (Int.toNat (↑(ByteArray.size s) : Int)))]]]) :=
  (evalF_ok followed Try.func66 (by kernel_rfl) (show evalF Try.prog Try.f66 ([ptr 0 1 0 0, iI m]) ([rows true 1 [[str s]]]) ([Dec.use [] [str s] [] (tuple [iI (↑(Prod.fst (rdV (lB s))) : Int), iI (↑(Prod.fst (Prod.snd (rdV (lB s)))) : Int), iI (↑(Prod.snd (Prod.snd (rdV (lB s)))) : Int)]) [], Dec.br false, Dec.use [] [bool false] [] (tuple []) []]) = .ok (FRes.mk (iI (↑(Prod.fst (rdV (lB s))) : Int)) ([rows true 1 [[str (ByteArray.extract s (Int.toNat (↑(Prod.fst (Prod.snd (rdV (lB s)))) : Int)) (Int.toNat (↑(ByteArray.size s) : Int)))]]]) (tr 2 ++ ((decide (0 ≤ (↑(Prod.fst (Prod.snd (rdV (lB s)))) : Int) ∧ (↑(Prod.fst (Prod.snd (rdV (lB s)))) : Int) ≤ (↑(ByteArray.size s) : Int) ∧ (↑(ByteArray.size s) : Int) ≤ (↑(ByteArray.size s) : Int)) = true) :: (tr 3 ++ ((oU 1 58 [] [bool false] [rows true 1 [[str s]]] [bool false] [] (tuple []) []) :: ((((↑(Prod.snd (Prod.snd (rdV (lB s)))) : Int) == 0) = false) :: ((oU 1 69 [] [str s] [rows true 1 [[str s]]] [str s] [] (tuple [iI (↑(Prod.fst (rdV (lB s))) : Int), iI (↑(Prod.fst (Prod.snd (rdV (lB s)))) : Int), iI (↑(Prod.snd (Prod.snd (rdV (lB s)))) : Int)]) []) :: (tr 3 ++ [])))))))) by kernel_rfl) (allP_of (trC 2 ⟨h1, (trC 3 ⟨⟨(@Go.L12.right_ok (false) h2), rfl, rfl, rfl⟩, ⟨h3, ⟨⟨(@Go.L12.var_ok (s)), rfl, rfl, rfl⟩, (trC 3 trivial)⟩⟩⟩)⟩))).move ([0]) (by kernel_rfl) (by kernel_rfl) (by kernel_rfl)

theorem tkn_4 (s : ByteArray) (m : Int)
    (h1 : false = false)
    (h2 : ((↑(Prod.snd (Prod.snd (rdV (lB s)))) : Int) == 0) = false) :
    FOk Try.prog 66 ([ptr 0 1 0 0, iI m]) ([rows true 1 [[str s]]]) (pan 117) ([rows true 1 [[str s]]]) :=
  (evalF_ok followed Try.func66 (by kernel_rfl) (show evalF Try.prog Try.f66 ([ptr 0 1 0 0, iI m]) ([rows true 1 [[str s]]]) ([Dec.use [] [str s] [] (tuple [iI (↑(Prod.fst (rdV (lB s))) : Int), iI (↑(Prod.fst (Prod.snd (rdV (lB s)))) : Int), iI (↑(Prod.snd (Prod.snd (rdV (lB s)))) : Int)]) [], Dec.br false, Dec.use [] [bool false] [] (pan 117) []]) = .ok (FRes.mk (pan 117) ([rows true 1 [[str s]]]) ((oU 1 58 [] [bool false] [rows true 1 [[str s]]] [bool false] [] (pan 117) []) :: ((((↑(Prod.snd (Prod.snd (rdV (lB s)))) : Int) == 0) = false) :: ((oU 1 69 [] [str s] [rows true 1 [[str s]]] [str s] [] (tuple [iI (↑(Prod.fst (rdV (lB s))) : Int), iI (↑(Prod.fst (Prod.snd (rdV (lB s)))) : Int), iI (↑(Prod.snd (Prod.snd (rdV (lB s)))) : Int)]) []) :: (tr 3 ++ []))))) by kernel_rfl) (allP_of ⟨⟨(@Go.L12.right_no (false) h1), rfl, rfl, rfl⟩, ⟨h2, ⟨⟨(@Go.L12.var_ok (s)), rfl, rfl, rfl⟩, (trC 3 trivial)⟩⟩⟩)).move ([0]) (by kernel_rfl) (by kernel_rfl) (by kernel_rfl)

def tkn_T (s : ByteArray) (m : Int) (Q : AVal → AState → Prop) : Prop := ((((↑(Prod.snd (Prod.snd (rdV (lB s)))) : Int) == 0) = true) → ((((decide ((↑(Prod.fst (rdV (lB s))) : Int) ≤ m) = true)) → (decide (0 ≤ (↑(Prod.fst (Prod.snd (rdV (lB s)))) : Int) ∧ (↑(Prod.fst (Prod.snd (rdV (lB s)))) : Int) ≤ (↑(ByteArray.size s) : Int) ∧ (↑(ByteArray.size s) : Int) ≤ (↑(ByteArray.size s) : Int)) = true) ∧ Q (iI (↑(Prod.fst (rdV (lB s))) : Int)) ([rows true 1 [[str (ByteArray.extract s (Int.toNat (↑(Prod.fst (Prod.snd (rdV (lB s)))) : Int)) (Int.toNat (↑(ByteArray.size s) : Int)))]]])) ∧ (((decide ((↑(Prod.fst (rdV (lB s))) : Int) ≤ m) = false)) → Q (pan 117) ([rows true 1 [[str s]]])) ∧ (((decide ((↑(Prod.fst (rdV (lB s))) : Int) ≤ m) = true)) ∨ ((decide ((↑(Prod.fst (rdV (lB s))) : Int) ≤ m) = false))))) ∧ ((((↑(Prod.snd (Prod.snd (rdV (lB s)))) : Int) == 0) = false) → ((((false = true)) → (decide (0 ≤ (↑(Prod.fst (Prod.snd (rdV (lB s)))) : Int) ∧ (↑(Prod.fst (Prod.snd (rdV (lB s)))) : Int) ≤ (↑(ByteArray.size s) : Int) ∧ (↑(ByteArray.size s) : Int) ≤ (↑(ByteArray.size s) : Int)) = true) ∧ Q (iI (↑(Prod.fst (rdV (lB s))) : Int)) ([rows true 1 [[str (ByteArray.extract s (Int.toNat (↑(Prod.fst (Prod.snd (rdV (lB s)))) : Int)) (Int.toNat (↑(ByteArray.size s) : Int)))]]])) ∧ (((false = false)) → Q (pan 117) ([rows true 1 [[str s]]])) ∧ (((false = true)) ∨ ((false = false)))))
theorem tkn_wp (s : ByteArray) (m : Int) {Q : AVal → AState → Prop} (h : tkn_T s m Q) : ∃ r σ', FOk Try.prog 66 ([ptr 0 1 0 0, iI m]) ([rows true 1 [[str s]]]) r σ' ∧ Q r σ' :=
  brE (fun (c0 : ((↑(Prod.snd (Prod.snd (rdV (lB s)))) : Int) == 0) = true) => Or.elim (h.1 c0).2.2 (fun (c1 : (decide ((↑(Prod.fst (rdV (lB s))) : Int) ≤ m) = true)) => ⟨_, _, tkn_1 s m (((h.1 c0).1 c1).1) (c1) (c0), ((h.1 c0).1 c1).2⟩) (fun (c2 : (decide ((↑(Prod.fst (rdV (lB s))) : Int) ≤ m) = false)) => ⟨_, _, tkn_2 s m (c2) (c0), ((h.1 c0).2.1 c2)⟩)) (fun (c0 : ((↑(Prod.snd (Prod.snd (rdV (lB s)))) : Int) == 0) = false) => Or.elim (h.2 c0).2.2 (fun (c3 : (false = true)) => ⟨_, _, tkn_3 s m (((h.2 c0).1 c3).1) (c3) (c0), ((h.2 c0).1 c3).2⟩) (fun (c4 : (false = false)) => ⟨_, _, tkn_4 s m (c4) (c0), ((h.2 c0).2.1 c4)⟩))


end Go.L12
end

section
set_option linter.unusedVariables false
set_option linter.unusedSimpArgs false
set_option maxRecDepth 100000
namespace Go.L12
open Go Go.Abs Go.Proofs

def nOk (n : Int) : Bool := decide (0 ≤ n ∧ n ≤ 1099511627776)
def nRows (n : Int) : List (List AVal) := byteRows (bS (vbl n.toNat))
theorem nRows_len {n : Int} (h : n ≤ 1099511627776) : (nRows n).length ≤ 9 := by
  have h9 := vbl_len9 (n := n.toNat) (by omega)
  unfold nRows
  rw [byteRows_bS, List.length_map]
  exact h9
def tkOk (s : ByteArray) (m : Int) : Bool := decide ((rdV (lB s)).2.2 = 0 ∧ ((rdV (lB s)).1 : Int) ≤ m)
def tkV (s : ByteArray) : Int := ((rdV (lB s)).1 : Int)
def tkR (s : ByteArray) : ByteArray := s.extract (rdV (lB s)).2.1 s.size

theorem num_ok (n : Int) (bs : List (List AVal)) (k : Nat) (h : nOk n = true) (hk : k = bs.length) (hl : bs.length ≤ 70368744177664) :
    FOk Try.prog 68 [.ptr 0 2 0 0, .int .i64 n] [.rows false 2 [[.ptr 0 2 0 0, .slc false 1 1 0 k none]], .trows 5 true 1 bs] (.tuple []) [.rows false 2 [[.ptr 0 2 0 0, .slc false 2 1 0 (k + (nRows n).length) none]], .dead, .trows 5 true 1 (bs ++ nRows n)] := by
  have h := of_decide_eq_true h
  have h9 := nRows_len h.2
  refine FOk.wp (num_wp n bs k ?_)
  unfold num_T
  unfold nRows at h9 ⊢
  exact ⟨fun _ => ⟨fun _ => ⟨hk, by omega, rfl, rfl⟩, fun c => absurd (of_decide_eq_false c) (by omega), .inl (decide_eq_true h.2)⟩, fun c => by omega, .inl ⟨h.1, by omega⟩⟩
theorem num_no (n : Int) (bs : List (List AVal)) (k : Nat) (h : nOk n = false) (h1 : n < 9223372036854775808) : FOk Try.prog 68 [.ptr 0 2 0 0, .int .i64 n] [.rows false 2 [[.ptr 0 2 0 0, .slc false 1 1 0 k none]], .trows 5 true 1 bs] (.pan 117) [.dead, .dead] := by
  have h := of_decide_eq_false h
  have key : FOk Try.prog 68 [.ptr 0 2 0 0, .int .i64 n] [.rows false 2 [[.ptr 0 2 0 0, .slc false 1 1 0 k none]], .trows 5 true 1 bs] (.pan 117) [.rows false 2 [[.ptr 0 2 0 0, .slc false 1 1 0 k none]], .trows 5 true 1 bs] := by
    refine FOk.wp (num_wp n bs k ?_)
    unfold num_T
    by_cases h0 : 0 ≤ n
    · exact ⟨fun _ => ⟨fun c => absurd (of_decide_eq_true c) (by omega), fun _ => ⟨rfl, rfl⟩, .inr (decide_eq_false (by omega))⟩, fun c => by omega, .inl ⟨h0, h1⟩⟩
    · exact ⟨fun c => by omega, fun _ => ⟨(fun c => by cases c), fun _ => ⟨rfl, rfl⟩, .inr rfl⟩, .inr (by omega)⟩
  exact key.pan
theorem taken_ok (s : ByteArray) (m : Int) (h : tkOk s m = true) : FOk Try.prog 66 [.ptr 0 1 0 0, .int .i64 m] [.rows true 1 [[.str s]]] (.int .i64 (tkV s)) [.rows true 1 [[.str (tkR s)]]] := by
  have h := of_decide_eq_true h
  obtain ⟨b1, b2, _⟩ := rdV_back (l := lB s) (n := (rdV (lB s)).1) (k := (rdV (lB s)).2.1) (by rw [← h.1])
  rw [lB_length] at b2
  refine FOk.wp (tkn_wp s m ?_)
  unfold tkn_T
  rw [h.1]
  exact ⟨fun _ => ⟨fun _ => ⟨decide_eq_true (by omega), rfl, rfl⟩, fun c => absurd (of_decide_eq_false c) (by omega), .inl (decide_eq_true h.2)⟩, fun c => absurd c (by simp)⟩
theorem taken_no (s : ByteArray) (m : Int) (h : tkOk s m = false) : FOk Try.prog 66 [.ptr 0 1 0 0, .int .i64 m] [.rows true 1 [[.str s]]] (.pan 117) [.dead] := by
  have h := of_decide_eq_false h
  have key : FOk Try.prog 66 [.ptr 0 1 0 0, .int .i64 m] [.rows true 1 [[.str s]]] (.pan 117) [.rows true 1 [[.str s]]] := by
    refine FOk.wp (tkn_wp s m ?_)
    unfold tkn_T
    refine ⟨fun c => ⟨fun c2 => absurd ⟨by have := eq_of_beq c; omega, of_decide_eq_true c2⟩ h, fun _ => ⟨rfl, rfl⟩, .inr (decide_eq_false fun c2 => h ⟨by have := eq_of_beq c; omega, c2⟩)⟩, fun _ => ⟨(fun c => by cases c), fun _ => ⟨rfl, rfl⟩, .inr rfl⟩⟩
  exact key.pan
theorem ws_okL (s : ByteArray) (bs : List (List AVal)) (n : Nat) (hn : n = bs.length) (hs : s.size ≤ 262144) (hl : bs.length ≤ 70368744177664) : FOk Try.prog 52 [.ptr 0 2 0 0, .str s] [.rows false 2 [[.ptr 0 2 0 0, .slc false 1 1 0 n none]], .trows 5 true 1 bs] (.tuple [.int .i64 (s.size : Int), .nili]) [.rows false 2 [[.ptr 0 2 0 0, .slc false 2 1 0 (n + (byteRows s).length) none]], .dead, .trows 5 true 1 (bs ++ byteRows s)] :=
  ws_ok s bs n hn (by rw [byteRows_lB, List.length_map, lB_length]; omega)
end Go.L12
end

section
set_option linter.unusedVariables false
set_option linter.unusedSimpArgs false
set_option maxRecDepth 100000
namespace Go.L12
open Go Go.Abs Go.Proofs

abbrev rowsL (l : List UInt8) : List (List AVal) := l.map fun b => brow b.toNat
theorem rowsL_append (a b : List UInt8) : rowsL a ++ rowsL b = rowsL (a ++ b) := by simp
theorem byteRows_rowsL (s : ByteArray) : byteRows s = rowsL (lB s) := rfl
theorem nRows_rowsL (n : Int) : nRows n = rowsL (vbl n.toNat) := byteRows_bS _

def pI (n : Int) : Option (List UInt8) := if nOk n = true then some (vbl n.toNat) else none
def pB (b : Bool) : Option (List UInt8) := some [if b then 1 else 0]
def pS (s : ByteArray) : Option (List UInt8) := if s.size ≤ 262144 then some (vbl s.size ++ lB s) else none
theorem pI_len {n : Int} {b : List UInt8} (h : pI n = some b) : b.length ≤ 300000 := by
  unfold pI at h
  split at h
  · rename_i hn
    cases h
    have := of_decide_eq_true hn
    have := vbl_len9 (n := n.toNat) (by omega)
    omega
  · cases h
theorem pS_len {s : ByteArray} {b : List UInt8} (h : pS s = some b) : b.length ≤ 300000 := by
  unfold pS at h
  split at h
  · rename_i hn
    cases h
    have := vbl_len9 (n := s.size) (by omega)
    rw [List.length_append, lB_length]
    omega
  · cases h

def seqO (f : Nat → Option (List UInt8)) : Nat → Nat → Option (List UInt8)
  | 0, _ => some []
  | d + 1, i =>
    match f i with
    | none => none
    | some b =>
      match seqO f d (i + 1) with
      | none => none
      | some bs => some (b ++ bs)
theorem seqO_len {f : Nat → Option (List UInt8)} {m : Nat} (hf : ∀ i b, f i = some b → b.length ≤ m) : ∀ (d i : Nat) (b : List UInt8), seqO f d i = some b → b.length ≤ d * m
  | 0, i, b, h => by cases h; simp
  | d + 1, i, b, h => by
    simp only [seqO] at h
    split at h
    · cases h
    · rename_i b1 h1
      split at h
      · cases h
      · rename_i bs h2
        cases h
        have := hf _ _ h1
        have := seqO_len hf d _ _ h2
        rw [List.length_append, Nat.succ_mul]; omega

section
variable {P : Program} {N : Nat} {c : Code}
theorem puts_runG (G : Regs → Prop) (n : Nat) (rg : Nat → Regs) (hp : List UInt8 → AState) (f : Nat → Option (List UInt8)) (B m x : Nat)
    (hf : ∀ i b, f i = some b → b.length ≤ m)
    (hx : ∀ l, TripN P N c (rg n) (hp l) (.exit x) (rg n) (hp l))
    (hr : ∀ i, i < n → ∀ l : List UInt8, l.length ≤ B + i * m → (∀ b, f i = some b → TripN P N c (rg i) (hp l) .normal (rg (i + 1)) (hp (l ++ b))) ∧ (f i = none → ∃ rg' σ', G rg' ∧ TripN P N c (rg i) (hp l) (.pan 117) rg' σ')) :
    ∀ (d i : Nat), i + d = n → ∀ l : List UInt8, l.length ≤ B + i * m →
      (∀ b, seqO f d i = some b → LoopRun P N c (rg i) (hp l) (.exit x) (rg n) (hp (l ++ b))) ∧ (seqO f d i = none → ∃ rg' σ', G rg' ∧ LoopRun P N c (rg i) (hp l) (.pan 117) rg' σ')
  | 0, i, hi, l, hl => by
    obtain rfl : i = n := by omega
    refine ⟨fun b hb => ?_, fun h => by cases h⟩
    cases hb
    rw [List.append_nil]
    exact .done (hx l) (by simp)
  | d + 1, i, hi, l, hl => by
    obtain ⟨h1, h2⟩ := hr i (by omega) l hl
    simp only [seqO]
    cases hfi : f i with
    | none =>
      obtain ⟨rg', σ', hg, t⟩ := h2 hfi
      exact ⟨(fun b hb => by cases hb), fun _ => ⟨rg', σ', hg, .done t (by simp)⟩⟩
    | some b =>
      have hb := hf i b hfi
      obtain ⟨k1, k2⟩ := puts_runG G n rg hp f B m x hf hx hr d (i + 1) (by omega) (l ++ b) (by rw [List.length_append, Nat.succ_mul]; omega)
      have t := h1 b hfi
      dsimp only
      cases hs : seqO f d (i + 1) with
      | none =>
        obtain ⟨rg', σ', hg, r⟩ := k2 hs
        exact ⟨(fun b hb => by cases hb), fun _ => ⟨rg', σ', hg, .more t r⟩⟩
      | some bs =>
        refine ⟨fun y hy => ?_, fun h => by cases h⟩
        cases hy
        have := k1 bs hs
        rw [List.append_assoc] at this
        exact .more t this

theorem puts_run (n : Nat) (rg : Nat → Regs) (hp : List UInt8 → AState) (f : Nat → Option (List UInt8)) (B m x : Nat)
    (hf : ∀ i b, f i = some b → b.length ≤ m)
    (hx : ∀ l, TripN P N c (rg n) (hp l) (.exit x) (rg n) (hp l))
    (hr : ∀ i, i < n → ∀ l : List UInt8, l.length ≤ B + i * m → (∀ b, f i = some b → TripN P N c (rg i) (hp l) .normal (rg (i + 1)) (hp (l ++ b))) ∧ (f i = none → ∃ rg' σ', TripN P N c (rg i) (hp l) (.pan 117) rg' σ')) :
    ∀ (d i : Nat), i + d = n → ∀ l : List UInt8, l.length ≤ B + i * m →
      (∀ b, seqO f d i = some b → LoopRun P N c (rg i) (hp l) (.exit x) (rg n) (hp (l ++ b))) ∧ (seqO f d i = none → ∃ rg' σ', LoopRun P N c (rg i) (hp l) (.pan 117) rg' σ') := by
  intro d i hi l hl
  have h := puts_runG (fun _ => True) n rg hp f B m x hf hx (fun i hi l hl => ⟨(hr i hi l hl).1, fun h => let ⟨rg', σ', t⟩ := (hr i hi l hl).2 h; ⟨rg', σ', trivial, t⟩⟩) d i hi l hl
  exact ⟨h.1, fun hn => let ⟨rg', σ', _, t⟩ := h.2 hn; ⟨rg', σ', t⟩⟩

def seqG {α : Type} (g : Nat → α → ByteArray → Option (α × ByteArray)) : Nat → Nat → α → ByteArray → Option (α × ByteArray)
  | 0, _, u, s => some (u, s)
  | d + 1, i, u, s =>
    match g i u s with
    | none => none
    | some x => seqG g d (i + 1) x.1 x.2
theorem takes_runG (G : Regs → Prop) {α : Type} (n : Nat) (rg : Nat → Regs) (hp : α → ByteArray → AState) (g : Nat → α → ByteArray → Option (α × ByteArray)) (I : Nat → α → Prop) (ex : Nat)
    (hx : ∀ u s, I n u → TripN P N c (rg n) (hp u s) (.exit ex) (rg n) (hp u s))
    (hr : ∀ i, i < n → ∀ u s, I i u → (∀ x, g i u s = some x → I (i + 1) x.1 ∧ TripN P N c (rg i) (hp u s) .normal (rg (i + 1)) (hp x.1 x.2)) ∧ (g i u s = none → ∃ rg' σ', G rg' ∧ TripN P N c (rg i) (hp u s) (.pan 117) rg' σ')) :
    ∀ (d i : Nat), i + d = n → ∀ u s, I i u →
      (∀ x, seqG g d i u s = some x → LoopRun P N c (rg i) (hp u s) (.exit ex) (rg n) (hp x.1 x.2)) ∧ (seqG g d i u s = none → ∃ rg' σ', G rg' ∧ LoopRun P N c (rg i) (hp u s) (.pan 117) rg' σ')
  | 0, i, hi, u, s, hI => by
    obtain rfl : i = n := by omega
    refine ⟨fun b hb => ?_, fun h => by cases h⟩
    cases hb
    exact .done (hx u s hI) (by simp)
  | d + 1, i, hi, u, s, hI => by
    obtain ⟨h1, h2⟩ := hr i (by omega) u s hI
    simp only [seqG]
    cases hfi : g i u s with
    | none =>
      obtain ⟨rg', σ', hg, t⟩ := h2 hfi
      exact ⟨(fun b hb => by cases hb), fun _ => ⟨rg', σ', hg, .done t (by simp)⟩⟩
    | some x =>
      obtain ⟨hI2, t⟩ := h1 x hfi
      obtain ⟨k1, k2⟩ := takes_runG G n rg hp g I ex hx hr d (i + 1) (by omega) x.1 x.2 hI2
      dsimp only
      refine ⟨fun y hy => .more t (k1 y hy), fun h => ?_⟩
      obtain ⟨rg', σ', hg, r⟩ := k2 h
      exact ⟨rg', σ', hg, .more t r⟩
theorem takes_run {α : Type} (n : Nat) (rg : Nat → Regs) (hp : α → ByteArray → AState) (g : Nat → α → ByteArray → Option (α × ByteArray)) (I : Nat → α → Prop) (ex : Nat)
    (hx : ∀ u s, I n u → TripN P N c (rg n) (hp u s) (.exit ex) (rg n) (hp u s))
    (hr : ∀ i, i < n → ∀ u s, I i u → (∀ x, g i u s = some x → I (i + 1) x.1 ∧ TripN P N c (rg i) (hp u s) .normal (rg (i + 1)) (hp x.1 x.2)) ∧ (g i u s = none → ∃ rg' σ', TripN P N c (rg i) (hp u s) (.pan 117) rg' σ')) :
    ∀ (d i : Nat), i + d = n → ∀ u s, I i u →
      (∀ x, seqG g d i u s = some x → LoopRun P N c (rg i) (hp u s) (.exit ex) (rg n) (hp x.1 x.2)) ∧ (seqG g d i u s = none → ∃ rg' σ', LoopRun P N c (rg i) (hp u s) (.pan 117) rg' σ') := by
  intro d i hi u s hI
  have h := takes_runG (fun _ => True) n rg hp g I ex hx (fun i hi u s hI => ⟨(hr i hi u s hI).1, fun h => let ⟨rg', σ', t⟩ := (hr i hi u s hI).2 h; ⟨rg', σ', trivial, t⟩⟩) d i hi u s hI
  exact ⟨h.1, fun hn => let ⟨rg', σ', _, t⟩ := h.2 hn; ⟨rg', σ', t⟩⟩
end

def tI (m : Int) (s : ByteArray) : Option (Int × ByteArray) := if tkOk s m = true then some (tkV s, tkR s) else none
def tB (s : ByteArray) : Option (Bool × ByteArray) := if tkOk s 1 = true then some (tkV s == 1, tkR s) else none
def tS (s : ByteArray) : Option (ByteArray × ByteArray) :=
  if tkOk s 262144 = true then if tkV s ≤ ((tkR s).size : Int) then some ((tkR s).extract 0 (tkV s).toNat, (tkR s).extract (tkV s).toNat (tkR s).size) else none else none
def oI (v : AVal) : Prop := ∃ n, v = .int .i64 n ∧ -9223372036854775808 ≤ n ∧ n < 9223372036854775808

def putB (t : Nat) (v : AVal) : Option (List UInt8) :=
  if t = 101 then pB v.toBool else if t = 104 then pS v.toStr else pI v.toInt
def takeB (t : Nat) (s : ByteArray) : Option (AVal × ByteArray) :=
  if t = 101 then (tB s).map fun x => (.bool x.1, x.2) else if t = 104 then (tS s).map fun x => (.str x.1, x.2) else (tI 1099511627776 s).map fun x => (.int .i64 x.1, x.2)
theorem putB_len {t : Nat} {v : AVal} {b : List UInt8} (h : putB t v = some b) : b.length ≤ 300000 := by
  unfold putB at h
  split at h
  · cases h; simp
  · split at h
    · exact pS_len h
    · exact pI_len h
def t0 (t : Nat) : Nat := if t = 111 then 100 else 104
def mx (t : Nat) : Nat := if t = 111 then 16 else 64
def rowsOf : AVal → List (List AVal)
  | .fsl _ _ rs _ => rs
  | _ => []
def putR (t : Nat) (row : List AVal) : Option (List UInt8) :=
  match putB (t0 t) (row.getD 0 .any) with
  | none => none
  | some a =>
    match putB 104 (row.getD 1 .any) with
    | none => none
    | some b => some (a ++ b)
def takeR (t : Nat) (s : ByteArray) : Option (List AVal × ByteArray) :=
  match takeB (t0 t) s with
  | none => none
  | some x =>
    match takeB 104 x.2 with
    | none => none
    | some y => some ([x.1, y.1], y.2)
theorem putR_len {t : Nat} {v : List AVal} {b : List UInt8} (h : putR t v = some b) : b.length ≤ 600000 := by
  unfold putR at h
  split at h
  · cases h
  · rename_i h1
    split at h
    · cases h
    · rename_i h2
      cases h
      have := putB_len h1
      have := putB_len h2
      rw [List.length_append]; omega
def pL (t : Nat) (rs : List (List AVal)) : Option (List UInt8) :=
  if rs.length ≤ mx t then
    match seqO (fun k => putR t (rs.getD k [])) rs.length 0 with
    | none => none
    | some b => some (vbl rs.length ++ b)
  else none
def tkG (t _ : Nat) (u : List (List AVal)) (s : ByteArray) : Option (List (List AVal) × ByteArray) := (takeR t s).map fun y => (u ++ [y.1], y.2)
def listV (rs : List (List AVal)) : AVal := .fsl rs.isEmpty 2 rs none
def tL (t : Nat) (s : ByteArray) : Option (List (List AVal) × ByteArray) :=
  match tI (mx t : Nat) s with
  | none => none
  | some x => seqG (tkG t) x.1.toNat 0 [] x.2
theorem pL_len {t : Nat} {rs : List (List AVal)} {b : List UInt8} (h : pL t rs = some b) : b.length ≤ 40000000 := by
  unfold pL at h
  split at h
  · rename_i hm
    split at h
    · cases h
    · rename_i b1 h1
      cases h
      have h64 : rs.length ≤ 64 := by unfold mx at hm; split at hm <;> omega
      have := seqO_len (fun i b h => putR_len h) _ _ _ h1
      have := vbl_len9 (n := rs.length) (by omega)
      rw [List.length_append]; omega
  · cases h
def putF (t : Nat) (v : AVal) : Option (List UInt8) :=
  if t = 111 then pL 111 (rowsOf v) else if t = 112 then pL 112 (rowsOf v) else putB t v
def takeF (t : Nat) (s : ByteArray) : Option (AVal × ByteArray) :=
  if t = 111 then (tL 111 s).map fun x => (listV x.1, x.2) else if t = 112 then (tL 112 s).map fun x => (listV x.1, x.2) else takeB t s
theorem putF_len {t : Nat} {v : AVal} {b : List UInt8} (h : putF t v = some b) : b.length ≤ 40000000 := by
  unfold putF at h
  split at h
  · exact pL_len h
  · split at h
    · exact pL_len h
    · exact Nat.le_trans (putB_len h) (by omega)
def kF (t : Nat) (v : AVal) : Prop := if t = 101 then ∃ b, v = .bool b else if t = 104 then ∃ s, v = .str s else oI v

theorem _root_.Go.Abs.FOkN.pan {P : Program} {f : FuncId} {xs : List AVal} {σ σ' : AState} {t : TypeId} (h : FOkN P f xs σ (.pan t) σ') : FOk P f xs σ (.pan t) (List.replicate σ.length .dead) :=
  ⟨h.1, fun F w ρ args r hp => (h.2 F w ρ args r hp).mono fun e w' ⟨ρ', F', he, tr, r'⟩ => by
    rcases he with ⟨v, _, hv⟩ | ⟨t', ht, rfl⟩
    · cases hv
    cases ht
    have hdead : ∀ {id : Nat} {o : AObj}, (List.replicate σ.length AObj.dead)[id]? = some o → o = .dead := fun {id o} h => by
      rw [List.getElem?_replicate] at h; split at h
      · cases h; rfl
      · cases h
    refine ⟨_, F', .inr ⟨t, rfl, rfl⟩, ⟨fun id b h => ?_, tr.frz, tr.os, tr.tape, tr.output, tr.size, tr.row, tr.keep, tr.newF, fun id b h => ?_, by simp, fun id o h1 h2 _ => (by rw [hdead h1] at h2; cases h2)⟩, r'.killAll σ.length tr.len⟩
    · rcases Nat.lt_or_ge id σ.length with hl | hl
      · rw [if_pos hl]; exact tr.map id b hl h
      · rw [r.dom id hl] at h; cases h
    · try dsimp only at h
      split at h
      · rename_i hl
        exact .inl (tr.back id b hl h)
      · cases h⟩
theorem _root_.Go.Abs.TripN.wpE {P : Program} {N : Nat} {c : Code} {rg : Regs} {σ : AState} {e : AExit} (h : ∃ e2 rg2 σ2, TripN P N c rg σ e2 rg2 σ2 ∧ e2 = e) : ∃ rg' σ', TripN P N c rg σ e rg' σ' := by
  obtain ⟨e2, rg2, σ2, h1, rfl⟩ := h
  exact ⟨rg2, σ2, h1⟩
end Go.L12
end

section
namespace Go.L12
open Go Go.Abs
class DS where
  ds : List Deferred
instance dsG [DS] : Glob := ⟨fun _ => none, DS.ds⟩
end Go.L12
end

section
set_option linter.unusedVariables false
set_option maxRecDepth 100000
namespace Go.L12
open Go Go.Abs Go.Abs.AVal Go.Abs.AObj Go.Proofs
theorem onum_1 (n : Int) (bs : List (List AVal)) (k : Nat) (b z : Bool)
    (h1 : decide (n < 0) = true) :
    FOk Try.prog 35 ([ptr 0 2 0 0, iI n]) ([rows false 2 [[slc z 1 1 0 k none, bool b]], rows true 1 bs]) (tuple []) ([rows false 2 [[slc z 1 1 0 k none, tt true]], rows true 1 bs]) :=
  (evalF_ok followed Try.func35 (by kernel_rfl) (show evalF Try.prog Try.f35 ([ptr 0 2 0 0, iI n]) ([rows false 2 [[slc z 1 1 0 k none, bool b]], rows true 1 bs]) ([Dec.br true]) = .ok (FRes.mk (tuple []) ([rows false 2 [[slc z 1 1 0 k none, tt true]], rows true 1 bs]) (tr 2 ++ ((decide (n < 0) = true) :: []))) by kernel_rfl) (allP_of (trC 2 ⟨h1, trivial⟩))).move ([0, 1]) (by kernel_rfl) (by kernel_rfl) (by kernel_rfl)

theorem onum_2 (n : Int) (bs : List (List AVal)) (k : Nat) (b z : Bool)
    (h1 : decide (n > 1099511627776) = true)
    (h2 : decide (n < 0) = false) :
    FOk Try.prog 35 ([ptr 0 2 0 0, iI n]) ([rows false 2 [[slc z 1 1 0 k none, bool b]], rows true 1 bs]) (tuple []) ([rows false 2 [[slc z 1 1 0 k none, tt true]], rows true 1 bs]) :=
  (evalF_ok followed Try.func35 (by kernel_rfl) (show evalF Try.prog Try.f35 ([ptr 0 2 0 0, iI n]) ([rows false 2 [[slc z 1 1 0 k none, bool b]], rows true 1 bs]) ([Dec.br false, Dec.br true]) = .ok (FRes.mk (tuple []) ([rows false 2 [[slc z 1 1 0 k none, tt true]], rows true 1 bs]) (tr 2 ++ ((decide (n > 1099511627776) = true) :: ((decide (n < 0) = false) :: [])))) by kernel_rfl) (allP_of (trC 2 ⟨h1, ⟨h2, trivial⟩⟩))).move ([0, 1]) (by kernel_rfl) (by kernel_rfl) (by kernel_rfl)

theorem onum_3 (n : Int) (bs : List (List AVal)) (k : Nat) (b z : Bool)
    (h1 : decide (List.length bs = k) = true)
    (h2 : decide ((k + List.length (byteRows (bS (vbl (Int.toNat n))))) * 1 ≤ 140737488355328 ∧ k + List.length (byteRows (bS (vbl (Int.toNat n)))) ≤ 9223372036854775807) = true)
    (h3 : 0 ≤ n)
    (h4 : n < 9223372036854775808)
    (h5 : decide (n > 1099511627776) = false)
    (h6 : decide (n < 0) = false) :
    FOk Try.prog 35 ([ptr 0 2 0 0, iI n]) ([rows false 2 [[slc z 1 1 0 k none, bool b]], rows true 1 bs]) (tuple []) ([rows false 2 [[slc (z && List.isEmpty (byteRows (bS (vbl (Int.toNat n))))) 2 1 0 (k + List.length (byteRows (bS (vbl (Int.toNat n))))) none, bool b]], dead, rows true 1 (bs ++ byteRows (bS (vbl (Int.toNat n))))]) :=
  (evalF_ok followed Try.func35 (by kernel_rfl) (show evalF Try.prog Try.f35 ([ptr 0 2 0 0, iI n]) ([rows false 2 [[slc z 1 1 0 k none, bool b]], rows true 1 bs]) ([Dec.br false, Dec.br false, Dec.use [] [iI n] [] (tuple [str (bS (vbl (Int.toNat n))), iI 0]) []]) = .ok (FRes.mk (tuple []) ([rows false 2 [[slc (z && List.isEmpty (byteRows (bS (vbl (Int.toNat n))))) 2 1 0 (k + List.length (byteRows (bS (vbl (Int.toNat n))))) none, bool b]], dead, rows true 1 (bs ++ byteRows (bS (vbl (Int.toNat n))))]) (tr 2 ++ ((decide (List.length bs = k) = true) :: ((decide ((k + List.length (byteRows (bS (vbl (Int.toNat n))))) * 1 ≤ 140737488355328 ∧ k + List.length (byteRows (bS (vbl (Int.toNat n)))) ≤ 9223372036854775807) = true) :: (tr 2 ++ ((oU 2 56 [] [iI n] [rows false 2 [[slc z 1 1 0 k none, bool b]], rows true 1 bs] [iI n] [] (tuple [str (bS (vbl (Int.toNat n))), iI 0]) []) :: ((decide (n > 1099511627776) = false) :: ((decide (n < 0) = false) :: [])))))))) by kernel_rfl) (allP_of (trC 2 ⟨h1, ⟨h2, (trC 2 ⟨⟨(@Go.L12.rputv_ok (n) h3 h4), rfl, rfl, rfl⟩, ⟨h5, ⟨h6, trivial⟩⟩⟩)⟩⟩))).move ([0, 1, 2]) (by kernel_rfl) (by kernel_rfl) (by kernel_rfl)

def onum_T (n : Int) (bs : List (List AVal)) (k : Nat) (b z : Bool) (Q : AVal → AState → Prop) : Prop := ((decide (n < 0) = true) → Q (tuple []) ([rows false 2 [[slc z 1 1 0 k none, tt true]], rows true 1 bs])) ∧ ((decide (n < 0) = false) → ((decide (n > 1099511627776) = true) → Q (tuple []) ([rows false 2 [[slc z 1 1 0 k none, tt true]], rows true 1 bs])) ∧ ((decide (n > 1099511627776) = false) → (0 ≤ n) ∧ (n < 9223372036854775808) ∧ (decide ((k + List.length (byteRows (bS (vbl (Int.toNat n))))) * 1 ≤ 140737488355328 ∧ k + List.length (byteRows (bS (vbl (Int.toNat n)))) ≤ 9223372036854775807) = true) ∧ (decide (List.length bs = k) = true) ∧ Q (tuple []) ([rows false 2 [[slc (z && List.isEmpty (byteRows (bS (vbl (Int.toNat n))))) 2 1 0 (k + List.length (byteRows (bS (vbl (Int.toNat n))))) none, bool b]], dead, rows true 1 (bs ++ byteRows (bS (vbl (Int.toNat n))))])))
theorem onum_wp (n : Int) (bs : List (List AVal)) (k : Nat) (b z : Bool) {Q : AVal → AState → Prop} (h : onum_T n bs k b z Q) : ∃ r σ', FOk Try.prog 35 ([ptr 0 2 0 0, iI n]) ([rows false 2 [[slc z 1 1 0 k none, bool b]], rows true 1 bs]) r σ' ∧ Q r σ' :=
  brE (fun (c0 : decide (n < 0) = true) => ⟨_, _, onum_1 n bs k b z (c0), (h.1 c0)⟩) (fun (c0 : decide (n < 0) = false) => brE (fun (c1 : decide (n > 1099511627776) = true) => ⟨_, _, onum_2 n bs k b z (c1) (c0), ((h.2 c0).1 c1)⟩) (fun (c1 : decide (n > 1099511627776) = false) => ⟨_, _, onum_3 n bs k b z (((h.2 c0).2 c1).2.2.2.1) (((h.2 c0).2 c1).2.2.1) (((h.2 c0).2 c1).1) (((h.2 c0).2 c1).2.1) (c1) (c0), ((h.2 c0).2 c1).2.2.2.2⟩))


theorem onum0_1 (n : Int) (bs : List (List AVal)) (k kc : Nat)
    (h1 : decide (n < 0) = true) :
    FOk Try.prog 35 ([ptr 0 2 0 0, iI n]) ([rows false 2 [[slc false 1 1 0 k (some kc), tt false]], rows true 1 bs]) (tuple []) ([rows false 2 [[slc false 1 1 0 k (some kc), tt true]], rows true 1 bs]) :=
  (evalF_ok followed Try.func35 (by kernel_rfl) (show evalF Try.prog Try.f35 ([ptr 0 2 0 0, iI n]) ([rows false 2 [[slc false 1 1 0 k (some kc), tt false]], rows true 1 bs]) ([Dec.br true]) = .ok (FRes.mk (tuple []) ([rows false 2 [[slc false 1 1 0 k (some kc), tt true]], rows true 1 bs]) (tr 2 ++ ((decide (n < 0) = true) :: []))) by kernel_rfl) (allP_of (trC 2 ⟨h1, trivial⟩))).move ([0, 1]) (by kernel_rfl) (by kernel_rfl) (by kernel_rfl)

theorem onum0_2 (n : Int) (bs : List (List AVal)) (k kc : Nat)
    (h1 : decide (n > 1099511627776) = true)
    (h2 : decide (n < 0) = false) :
    FOk Try.prog 35 ([ptr 0 2 0 0, iI n]) ([rows false 2 [[slc false 1 1 0 k (some kc), tt false]], rows true 1 bs]) (tuple []) ([rows false 2 [[slc false 1 1 0 k (some kc), tt true]], rows true 1 bs]) :=
  (evalF_ok followed Try.func35 (by kernel_rfl) (show evalF Try.prog Try.f35 ([ptr 0 2 0 0, iI n]) ([rows false 2 [[slc false 1 1 0 k (some kc), tt false]], rows true 1 bs]) ([Dec.br false, Dec.br true]) = .ok (FRes.mk (tuple []) ([rows false 2 [[slc false 1 1 0 k (some kc), tt true]], rows true 1 bs]) (tr 2 ++ ((decide (n > 1099511627776) = true) :: ((decide (n < 0) = false) :: [])))) by kernel_rfl) (allP_of (trC 2 ⟨h1, ⟨h2, trivial⟩⟩))).move ([0, 1]) (by kernel_rfl) (by kernel_rfl) (by kernel_rfl)

theorem onum0_3 (n : Int) (bs : List (List AVal)) (k kc : Nat)
    (h1 : decide (List.length bs = k) = true)
    (h2 : decide ((k + List.length (byteRows (bS (vbl (Int.toNat n))))) * 1 ≤ 140737488355328 ∧ k + List.length (byteRows (bS (vbl (Int.toNat n)))) ≤ 9223372036854775807) = true)
    (h3 : 0 ≤ n)
    (h4 : n < 9223372036854775808)
    (h5 : decide (n > 1099511627776) = false)
    (h6 : decide (n < 0) = false) :
    FOk Try.prog 35 ([ptr 0 2 0 0, iI n]) ([rows false 2 [[slc false 1 1 0 k (some kc), tt false]], rows true 1 bs]) (tuple []) ([rows false 2 [[slc false 2 1 0 (k + List.length (byteRows (bS (vbl (Int.toNat n))))) none, tt false]], dead, rows true 1 (bs ++ byteRows (bS (vbl (Int.toNat n))))]) :=
  (evalF_ok followed Try.func35 (by kernel_rfl) (show evalF Try.prog Try.f35 ([ptr 0 2 0 0, iI n]) ([rows false 2 [[slc false 1 1 0 k (some kc), tt false]], rows true 1 bs]) ([Dec.br false, Dec.br false, Dec.use [] [iI n] [] (tuple [str (bS (vbl (Int.toNat n))), iI 0]) []]) = .ok (FRes.mk (tuple []) ([rows false 2 [[slc false 2 1 0 (k + List.length (byteRows (bS (vbl (Int.toNat n))))) none, tt false]], dead, rows true 1 (bs ++ byteRows (bS (vbl (Int.toNat n))))]) (tr 2 ++ ((decide (List.length bs = k) = true) :: ((decide ((k + List.length (byteRows (bS (vbl (Int.toNat n))))) * 1 ≤ 140737488355328 ∧ k + List.length (byteRows (bS (vbl (Int.toNat n)))) ≤ 9223372036854775807) = true) :: (tr 2 ++ ((oU 2 56 [] [iI n] [rows false 2 [[slc false 1 1 0 k (some kc), tt false]], rows true 1 bs] [iI n] [] (tuple [str (bS (vbl (Int.toNat n))), iI 0]) []) :: ((decide (n > 1099511627776) = false) :: ((decide (n < 0) = false) :: [])))))))) by kernel_rfl) (allP_of (trC 2 ⟨h1, ⟨h2, (trC 2 ⟨⟨(@Go.L12.rputv_ok (n) h3 h4), rfl, rfl, rfl⟩, ⟨h5, ⟨h6, trivial⟩⟩⟩)⟩⟩))).move ([0, 1, 2]) (by kernel_rfl) (by kernel_rfl) (by kernel_rfl)

def onum0_T (n : Int) (bs : List (List AVal)) (k kc : Nat) (Q : AVal → AState → Prop) : Prop := ((decide (n < 0) = true) → Q (tuple []) ([rows false 2 [[slc false 1 1 0 k (some kc), tt true]], rows true 1 bs])) ∧ ((decide (n < 0) = false) → ((decide (n > 1099511627776) = true) → Q (tuple []) ([rows false 2 [[slc false 1 1 0 k (some kc), tt true]], rows true 1 bs])) ∧ ((decide (n > 1099511627776) = false) → (0 ≤ n) ∧ (n < 9223372036854775808) ∧ (decide ((k + List.length (byteRows (bS (vbl (Int.toNat n))))) * 1 ≤ 140737488355328 ∧ k + List.length (byteRows (bS (vbl (Int.toNat n)))) ≤ 9223372036854775807) = true) ∧ (decide (List.length bs = k) = true) ∧ Q (tuple []) ([rows false 2 [[slc false 2 1 0 (k + List.length (byteRows (bS (vbl (Int.toNat n))))) none, tt false]], dead, rows true 1 (bs ++ byteRows (bS (vbl (Int.toNat n))))])))
theorem onum0_wp (n : Int) (bs : List (List AVal)) (k kc : Nat) {Q : AVal → AState → Prop} (h : onum0_T n bs k kc Q) : ∃ r σ', FOk Try.prog 35 ([ptr 0 2 0 0, iI n]) ([rows false 2 [[slc false 1 1 0 k (some kc), tt false]], rows true 1 bs]) r σ' ∧ Q r σ' :=
  brE (fun (c0 : decide (n < 0) = true) => ⟨_, _, onum0_1 n bs k kc (c0), (h.1 c0)⟩) (fun (c0 : decide (n < 0) = false) => brE (fun (c1 : decide (n > 1099511627776) = true) => ⟨_, _, onum0_2 n bs k kc (c1) (c0), ((h.2 c0).1 c1)⟩) (fun (c1 : decide (n > 1099511627776) = false) => ⟨_, _, onum0_3 n bs k kc (((h.2 c0).2 c1).2.2.2.1) (((h.2 c0).2 c1).2.2.1) (((h.2 c0).2 c1).1) (((h.2 c0).2 c1).2.1) (c1) (c0), ((h.2 c0).2 c1).2.2.2.2⟩))


end Go.L12
end

section
set_option linter.unusedVariables false
set_option linter.unusedSimpArgs false
set_option maxRecDepth 100000
namespace Go.L12
open Go Go.Abs Go.Proofs

abbrev RS : Type := ByteArray × Bool
def vI (p : RS) : Int := if p.2 = false ∧ tkOk p.1 1099511627776 = true then tkV p.1 else 0
def nI (p : RS) : RS := if p.2 = false ∧ tkOk p.1 1099511627776 = true then (tkR p.1, false) else (p.1, true)
def vM (m : Int) (p : RS) : Int := if vI p ≤ m then vI p else 0
def nM (m : Int) (p : RS) : RS := if vI p ≤ m then nI p else ((nI p).1, true)
def tFit (p : RS) : Prop := (nM 262144 p).2 = false ∧ vM 262144 p ≤ ((nM 262144 p).1.size : Int)
instance (p : RS) : Decidable (tFit p) := by unfold tFit; infer_instance
theorem tkOk_iff {s : ByteArray} {m : Int} : tkOk s m = true ↔ (rdV (lB s)).2.2 = 0 ∧ tkV s ≤ m := by unfold tkOk tkV; exact decide_eq_true_iff
theorem tkV_nn (s : ByteArray) : 0 ≤ tkV s := Int.natCast_nonneg _
def mk (c : Nat) (s : ByteArray) : RS := if (lB s).getD 0 0 = UInt8.ofNat c ∧ 0 < s.size then (s.extract 1 s.size, false) else (s, true)
end Go.L12
end

section
set_option linter.unusedVariables false
set_option linter.unusedSimpArgs false
set_option maxRecDepth 100000
namespace Go.L12
open Go Go.Abs Go.Proofs
abbrev got (o : Option (List UInt8)) : List UInt8 := o.getD []
theorem onumP (n : Int) (l : List UInt8) (b : Bool) (hl : l.length ≤ 35184372088832) :
    FOk Try.prog 35 [.ptr 0 2 0 0, .int .i64 n] [.rows false 2 [[.slc false 1 1 0 l.length none, .bool b]], .rows true 1 (rowsL l)] (.tuple [])
      [.rows false 2 [[.slc false 2 1 0 (l ++ got (pI n)).length none, .bool (b || (pI n).isNone)]], .dead, .rows true 1 (rowsL (l ++ got (pI n)))] := by
  cases ho : nOk n with
  | true =>
    have h := of_decide_eq_true ho
    have h9 := nRows_len h.2
    have e : pI n = some (vbl n.toNat) := by unfold pI; rw [if_pos ho]
    rw [e]
    have hr := nRows_rowsL n
    refine FOk.wp (onum_wp n (rowsL l) l.length b false ?_)
    unfold onum_T
    rw [show byteRows (bS (vbl n.toNat)) = rowsL (vbl n.toNat) from hr]
    rw [hr, List.length_map] at h9
    refine ⟨fun c => absurd (of_decide_eq_true c) (by omega), fun _ => ⟨fun c => absurd (of_decide_eq_true c) (by omega), fun _ => ⟨h.1, by omega, decide_eq_true (by rw [List.length_map]; omega), decide_eq_true (List.length_map _), rfl, ?_⟩⟩⟩
    rw [rowsL_append]
    simp
  | false =>
    have h := of_decide_eq_false ho
    have e : pI n = none := by unfold pI; rw [if_neg (by rw [ho]; simp)]
    rw [e]
    have key : FOk Try.prog 35 [.ptr 0 2 0 0, .int .i64 n] [.rows false 2 [[.slc false 1 1 0 l.length none, .bool b]], .rows true 1 (rowsL l)] (.tuple []) [.rows false 2 [[.slc false 1 1 0 l.length none, .tt true]], .rows true 1 (rowsL l)] := by
      refine FOk.wp (onum_wp n (rowsL l) l.length b false ?_)
      unfold onum_T
      refine ⟨fun _ => ⟨rfl, rfl⟩, fun c => ⟨fun _ => ⟨rfl, rfl⟩, fun c2 => absurd ⟨?_, ?_⟩ h⟩⟩
      · have := of_decide_eq_false c; omega
      · have := of_decide_eq_false c2; omega
    have k2 := (key.lift 1 rfl).weakObj 0 (.rows false 2 [[.slc false 2 1 0 l.length none, .bool true]]) (by simp [liftH]) rfl fun F w ρ _ h => ORel.row1 (xs := [.slc false 2 1 0 l.length none, .tt true]) ⟨Imp.refl _, Imp.ttb rfl, trivial⟩ h
    show FOk _ _ _ _ _ [.rows false 2 [[.slc false 2 1 0 (l ++ []).length none, .bool (b || true)]], .dead, .rows true 1 (rowsL (l ++ []))]
    rw [List.append_nil, Bool.or_true]
    exact k2
theorem onum0P (n : Int) (c : UInt8) :
    FOk Try.prog 35 [.ptr 0 2 0 0, .int .i64 n] [.rows false 2 [[.slc false 1 1 0 1 (some 1), .tt false]], .rows true 1 [[.int .u8 (c.toNat : Int)]]] (.tuple [])
      [.rows false 2 [[.slc false 2 1 0 ([c] ++ got (pI n)).length none, .bool (pI n).isNone]], .dead, .rows true 1 (rowsL ([c] ++ got (pI n)))] := by
  cases ho : nOk n with
  | true =>
    have h := of_decide_eq_true ho
    have h9 := nRows_len h.2
    have e : pI n = some (vbl n.toNat) := by unfold pI; rw [if_pos ho]
    rw [e]
    have hr := nRows_rowsL n
    have key : FOk Try.prog 35 [.ptr 0 2 0 0, .int .i64 n] [.rows false 2 [[.slc false 1 1 0 1 (some 1), .tt false]], .rows true 1 [[.int .u8 (c.toNat : Int)]]] (.tuple []) [.rows false 2 [[.slc false 2 1 0 ([c] ++ vbl n.toNat).length none, .tt false]], .dead, .rows true 1 (rowsL ([c] ++ vbl n.toNat))] := by
      refine FOk.wp (onum0_wp n [[.int .u8 (c.toNat : Int)]] 1 1 ?_)
      unfold onum0_T
      rw [show byteRows (bS (vbl n.toNat)) = rowsL (vbl n.toNat) from hr]
      rw [hr, List.length_map] at h9
      refine ⟨fun c => absurd (of_decide_eq_true c) (by omega), fun _ => ⟨fun c => absurd (of_decide_eq_true c) (by omega), fun _ => ⟨h.1, by omega, decide_eq_true (by rw [List.length_map]; omega), decide_eq_true rfl, rfl, ?_⟩⟩⟩
      simp [brow, Nat.add_comm]
    exact key.weakObj 0 (.rows false 2 [[.slc false 2 1 0 ([c] ++ vbl n.toNat).length none, .bool false]]) (by simp) rfl fun F w ρ _ h => ORel.row1 (xs := [.slc false 2 1 0 ([c] ++ vbl n.toNat).length none, .tt false]) ⟨Imp.refl _, Imp.ttb rfl, trivial⟩ h
  | false =>
    have h := of_decide_eq_false ho
    have e : pI n = none := by unfold pI; rw [if_neg (by rw [ho]; simp)]
    rw [e]
    have key : FOk Try.prog 35 [.ptr 0 2 0 0, .int .i64 n] [.rows false 2 [[.slc false 1 1 0 1 (some 1), .tt false]], .rows true 1 [[.int .u8 (c.toNat : Int)]]] (.tuple []) [.rows false 2 [[.slc false 1 1 0 1 (some 1), .tt true]], .rows true 1 [[.int .u8 (c.toNat : Int)]]] := by
      refine FOk.wp (onum0_wp n [[.int .u8 (c.toNat : Int)]] 1 1 ?_)
      unfold onum0_T
      refine ⟨fun _ => ⟨rfl, rfl⟩, fun c => ⟨fun _ => ⟨rfl, rfl⟩, fun c2 => absurd ⟨?_, ?_⟩ h⟩⟩
      · have := of_decide_eq_false c; omega
      · have := of_decide_eq_false c2; omega
    exact (key.lift 1 rfl).weakObj 0 (.rows false 2 [[.slc false 2 1 0 1 none, .bool true]]) (by simp [liftH]) rfl fun F w ρ _ h => ORel.row1 (xs := [.slc false 2 1 0 1 (some 1), .tt true]) ⟨Imp.slcCap _ _ _ _ _ _, Imp.ttb rfl, trivial⟩ h
end Go.L12
end

section
set_option linter.unusedVariables false
set_option maxRecDepth 100000
namespace Go.L12
open Go Go.Abs Go.Abs.AVal Go.Abs.AObj Go.Proofs
theorem otext_1 (s : ByteArray) (l : List UInt8) (b : Bool)
    (h1 : decide ((↑(ByteArray.size s) : Int) > 262144) = true) :
    FOk Try.prog 38 ([ptr 0 2 0 0, str s]) ([rows false 2 [[slc false 1 1 0 (List.length l) none, bool b]], rows true 1 (rowsL l)]) (tuple []) ([rows false 2 [[slc false 1 1 0 (List.length l) none, tt true]], rows true 1 (rowsL l)]) :=
  (evalF_ok followed Try.func38 (by kernel_rfl) (show evalF Try.prog Try.f38 ([ptr 0 2 0 0, str s]) ([rows false 2 [[slc false 1 1 0 (List.length l) none, bool b]], rows true 1 (rowsL l)]) ([Dec.br true]) = .ok (FRes.mk (tuple []) ([rows false 2 [[slc false 1 1 0 (List.length l) none, tt true]], rows true 1 (rowsL l)]) (tr 2 ++ ((decide ((↑(ByteArray.size s) : Int) > 262144) = true) :: []))) by kernel_rfl) (allP_of (trC 2 ⟨h1, trivial⟩))).move ([0, 1]) (by kernel_rfl) (by kernel_rfl) (by kernel_rfl)

theorem otext_2 (s : ByteArray) (l : List UInt8) (b : Bool)
    (h1 : decide (List.length (rowsL (l ++ got (pI (↑(ByteArray.size s) : Int)))) = List.length (l ++ got (pI (↑(ByteArray.size s) : Int)))) = true)
    (h2 : decide ((List.length (l ++ got (pI (↑(ByteArray.size s) : Int))) + List.length (byteRows s)) * 1 ≤ 140737488355328 ∧ List.length (l ++ got (pI (↑(ByteArray.size s) : Int))) + List.length (byteRows s) ≤ 9223372036854775807) = true)
    (h3 : List.length l ≤ 35184372088832)
    (h4 : decide ((↑(ByteArray.size s) : Int) > 262144) = false) :
    FOk Try.prog 38 ([ptr 0 2 0 0, str s]) ([rows false 2 [[slc false 1 1 0 (List.length l) none, bool b]], rows true 1 (rowsL l)]) (tuple []) ([rows false 2 [[slc false 2 1 0 (List.length (l ++ got (pI (↑(ByteArray.size s) : Int))) + List.length (byteRows s)) none, bool (b || Option.isNone (pI (↑(ByteArray.size s) : Int)))]], dead, rows true 1 (rowsL (l ++ got (pI (↑(ByteArray.size s) : Int))) ++ byteRows s)]) :=
  (evalF_ok followed Try.func38 (by kernel_rfl) (show evalF Try.prog Try.f38 ([ptr 0 2 0 0, str s]) ([rows false 2 [[slc false 1 1 0 (List.length l) none, bool b]], rows true 1 (rowsL l)]) ([Dec.br false, Dec.use [0, 1] [ptr 0 2 0 0, iI (↑(ByteArray.size s) : Int)] [rows false 2 [[slc false 1 1 0 (List.length l) none, bool b]], rows true 1 (rowsL l)] (tuple []) [rows false 2 [[slc false 2 1 0 (List.length (l ++ got (pI (↑(ByteArray.size s) : Int)))) none, bool (b || Option.isNone (pI (↑(ByteArray.size s) : Int)))]], dead, rows true 1 (rowsL (l ++ got (pI (↑(ByteArray.size s) : Int))))]]) = .ok (FRes.mk (tuple []) ([rows false 2 [[slc false 3 1 0 (List.length (l ++ got (pI (↑(ByteArray.size s) : Int))) + List.length (byteRows s)) none, bool (b || Option.isNone (pI (↑(ByteArray.size s) : Int)))]], dead, dead, rows true 1 (rowsL (l ++ got (pI (↑(ByteArray.size s) : Int))) ++ byteRows s)]) (tr 2 ++ ((decide (List.length (rowsL (l ++ got (pI (↑(ByteArray.size s) : Int)))) = List.length (l ++ got (pI (↑(ByteArray.size s) : Int)))) = true) :: ((decide ((List.length (l ++ got (pI (↑(ByteArray.size s) : Int))) + List.length (byteRows s)) * 1 ≤ 140737488355328 ∧ List.length (l ++ got (pI (↑(ByteArray.size s) : Int))) + List.length (byteRows s) ≤ 9223372036854775807) = true) :: (tr 2 ++ ((oU 2 35 [0, 1] [ptr 0 2 0 0, iI (↑(ByteArray.size s) : Int)] [rows false 2 [[slc false 1 1 0 (List.length l) none, bool b]], rows true 1 (rowsL l)] [ptr 0 2 0 0, iI (↑(ByteArray.size s) : Int)] [rows false 2 [[slc false 1 1 0 (List.length l) none, bool b]], rows true 1 (rowsL l)] (tuple []) [rows false 2 [[slc false 2 1 0 (List.length (l ++ got (pI (↑(ByteArray.size s) : Int)))) none, bool (b || Option.isNone (pI (↑(ByteArray.size s) : Int)))]], dead, rows true 1 (rowsL (l ++ got (pI (↑(ByteArray.size s) : Int))))]) :: ((decide ((↑(ByteArray.size s) : Int) > 262144) = false) :: []))))))) by kernel_rfl) (allP_of (trC 2 ⟨h1, ⟨h2, (trC 2 ⟨⟨(@Go.L12.onumP ((↑(ByteArray.size s) : Int)) (l) (b) h3), rfl, rfl, rfl⟩, ⟨h4, trivial⟩⟩)⟩⟩))).move ([0, 1, 3]) (by kernel_rfl) (by kernel_rfl) (by kernel_rfl)

def otext_T (s : ByteArray) (l : List UInt8) (b : Bool) (Q : AVal → AState → Prop) : Prop := ((decide ((↑(ByteArray.size s) : Int) > 262144) = true) → Q (tuple []) ([rows false 2 [[slc false 1 1 0 (List.length l) none, tt true]], rows true 1 (rowsL l)])) ∧ ((decide ((↑(ByteArray.size s) : Int) > 262144) = false) → (List.length l ≤ 35184372088832) ∧ (decide ((List.length (l ++ got (pI (↑(ByteArray.size s) : Int))) + List.length (byteRows s)) * 1 ≤ 140737488355328 ∧ List.length (l ++ got (pI (↑(ByteArray.size s) : Int))) + List.length (byteRows s) ≤ 9223372036854775807) = true) ∧ (decide (List.length (rowsL (l ++ got (pI (↑(ByteArray.size s) : Int)))) = List.length (l ++ got (pI (↑(ByteArray.size s) : Int)))) = true) ∧ Q (tuple []) ([rows false 2 [[slc false 2 1 0 (List.length (l ++ got (pI (↑(ByteArray.size s) : Int))) + List.length (byteRows s)) none, bool (b || Option.isNone (pI (↑(ByteArray.size s) : Int)))]], dead, rows true 1 (rowsL (l ++ got (pI (↑(ByteArray.size s) : Int))) ++ byteRows s)]))
theorem otext_wp (s : ByteArray) (l : List UInt8) (b : Bool) {Q : AVal → AState → Prop} (h : otext_T s l b Q) : ∃ r σ', FOk Try.prog 38 ([ptr 0 2 0 0, str s]) ([rows false 2 [[slc false 1 1 0 (List.length l) none, bool b]], rows true 1 (rowsL l)]) r σ' ∧ Q r σ' :=
  brE (fun (c0 : decide ((↑(ByteArray.size s) : Int) > 262144) = true) => ⟨_, _, otext_1 s l b (c0), (h.1 c0)⟩) (fun (c0 : decide ((↑(ByteArray.size s) : Int) > 262144) = false) => ⟨_, _, otext_2 s l b ((h.2 c0).2.2.1) ((h.2 c0).2.1) ((h.2 c0).1) (c0), (h.2 c0).2.2.2⟩)


theorem oends_1 (l : List UInt8) (b : Bool)
    (h1 : b = true) :
    FOk Try.prog 39 ([ptr 0 2 0 0]) ([rows false 2 [[slc false 1 1 0 (List.length l) none, bool b]], rows true 1 (rowsL l)]) (tuple [str (ByteArray.mk #[]), iI 1]) ([rows false 2 [[slc false 1 1 0 (List.length l) none, bool b]], rows true 1 (rowsL l)]) :=
  (evalF_ok followed Try.func39 (by kernel_rfl) (show evalF Try.prog Try.f39 ([ptr 0 2 0 0]) ([rows false 2 [[slc false 1 1 0 (List.length l) none, bool b]], rows true 1 (rowsL l)]) ([Dec.br true]) = .ok (FRes.mk (tuple [str (ByteArray.mk #[]), iI 1]) ([rows false 2 [[slc false 1 1 0 (List.length l) none, bool b]], rows true 1 (rowsL l)]) ((b = true) :: (tr 2 ++ []))) by kernel_rfl) (allP_of ⟨h1, (trC 2 trivial)⟩)).move ([0, 1]) (by kernel_rfl) (by kernel_rfl) (by kernel_rfl)

theorem oends_2 (l : List UInt8) (b : Bool)
    (h1 : (List.all (List.take (List.length l) (rowsL l)) fun r => areKinds [Kind.int IntKind.u8] r) = true)
    (h2 : decide (0 + List.length l ≤ List.length (rowsL l)) = true)
    (h3 : (List.all (List.take (List.length l) (rowsL l)) fun r => List.all r oneCell) = true)
    (h4 : b = false) :
    FOk Try.prog 39 ([ptr 0 2 0 0]) ([rows false 2 [[slc false 1 1 0 (List.length l) none, bool b]], rows true 1 (rowsL l)]) (tuple [str (rowBytes (List.take (List.length l) (rowsL l))), iI 0]) ([rows false 2 [[slc false 1 1 0 (List.length l) none, bool b]], rows true 1 (rowsL l)]) :=
  (evalF_ok followed Try.func39 (by kernel_rfl) (show evalF Try.prog Try.f39 ([ptr 0 2 0 0]) ([rows false 2 [[slc false 1 1 0 (List.length l) none, bool b]], rows true 1 (rowsL l)]) ([Dec.br false]) = .ok (FRes.mk (tuple [str (rowBytes (List.take (List.length l) (rowsL l))), iI 0]) ([rows false 2 [[slc false 1 1 0 (List.length l) none, bool b]], rows true 1 (rowsL l)]) (((List.all (List.take (List.length l) (rowsL l)) fun r => areKinds [Kind.int IntKind.u8] r) = true) :: ((decide (0 + List.length l ≤ List.length (rowsL l)) = true) :: (((List.all (List.take (List.length l) (rowsL l)) fun r => List.all r oneCell) = true) :: (tr 2 ++ ((b = false) :: (tr 2 ++ []))))))) by kernel_rfl) (allP_of ⟨h1, ⟨h2, ⟨h3, (trC 2 ⟨h4, (trC 2 trivial)⟩)⟩⟩⟩)).move ([0, 1]) (by kernel_rfl) (by kernel_rfl) (by kernel_rfl)

def oends_T (l : List UInt8) (b : Bool) (Q : AVal → AState → Prop) : Prop := ((b = true) → Q (tuple [str (ByteArray.mk #[]), iI 1]) ([rows false 2 [[slc false 1 1 0 (List.length l) none, bool b]], rows true 1 (rowsL l)])) ∧ ((b = false) → ((List.all (List.take (List.length l) (rowsL l)) fun r => List.all r oneCell) = true) ∧ (decide (0 + List.length l ≤ List.length (rowsL l)) = true) ∧ ((List.all (List.take (List.length l) (rowsL l)) fun r => areKinds [Kind.int IntKind.u8] r) = true) ∧ Q (tuple [str (rowBytes (List.take (List.length l) (rowsL l))), iI 0]) ([rows false 2 [[slc false 1 1 0 (List.length l) none, bool b]], rows true 1 (rowsL l)]))
theorem oends_wp (l : List UInt8) (b : Bool) {Q : AVal → AState → Prop} (h : oends_T l b Q) : ∃ r σ', FOk Try.prog 39 ([ptr 0 2 0 0]) ([rows false 2 [[slc false 1 1 0 (List.length l) none, bool b]], rows true 1 (rowsL l)]) r σ' ∧ Q r σ' :=
  brE (fun (c0 : b = true) => ⟨_, _, oends_1 l b (c0), (h.1 c0)⟩) (fun (c0 : b = false) => ⟨_, _, oends_2 l b ((h.2 c0).2.2.1) ((h.2 c0).2.1) ((h.2 c0).1) (c0), (h.2 c0).2.2.2⟩)


end Go.L12
end

section
set_option linter.unusedVariables false
set_option linter.unusedSimpArgs false
set_option maxRecDepth 100000
namespace Go.L12
open Go Go.Abs Go.Proofs
theorem otextP (s : ByteArray) (l : List UInt8) (b : Bool) (hl : l.length ≤ 35184372088832) :
    FOk Try.prog 38 [.ptr 0 2 0 0, .str s] [.rows false 2 [[.slc false 1 1 0 l.length none, .bool b]], .rows true 1 (rowsL l)] (.tuple [])
      [.rows false 2 [[.slc false 2 1 0 (l ++ got (pS s)).length none, .bool (b || (pS s).isNone)]], .dead, .rows true 1 (rowsL (l ++ got (pS s)))] := by
  by_cases hs : s.size ≤ 262144
  · have e : pS s = some (vbl s.size ++ lB s) := by unfold pS; rw [if_pos hs]
    have e1 : pI (s.size : Int) = some (vbl s.size) := by
      unfold pI; rw [if_pos (show nOk (s.size : Int) = true from decide_eq_true (by omega)), Int.toNat_natCast]
    have h9 := vbl_len9 (n := s.size) (by omega)
    have hb : (byteRows s).length = s.size := by rw [byteRows_lB, List.length_map, lB_length]
    refine FOk.wp (otext_wp s l b ?_)
    unfold otext_T
    rw [e, e1]
    refine ⟨fun c => absurd (of_decide_eq_true c) (by omega), fun _ => ⟨hl, decide_eq_true ?_, decide_eq_true (List.length_map _), rfl, ?_⟩⟩
    · rw [hb, List.length_append]
      simp only [got, Option.getD_some]
      omega
    · rw [byteRows_rowsL, rowsL_append, List.append_assoc, List.length_map]
      simp only [got, Option.getD_some, Option.isNone_some]
      rw [List.length_append, List.length_append, List.length_append, Nat.add_assoc]
  · have e : pS s = none := by unfold pS; rw [if_neg hs]
    rw [e]
    have key : FOk Try.prog 38 [.ptr 0 2 0 0, .str s] [.rows false 2 [[.slc false 1 1 0 l.length none, .bool b]], .rows true 1 (rowsL l)] (.tuple []) [.rows false 2 [[.slc false 1 1 0 l.length none, .tt true]], .rows true 1 (rowsL l)] := by
      refine FOk.wp (otext_wp s l b ?_)
      unfold otext_T
      exact ⟨fun _ => ⟨rfl, rfl⟩, fun c => absurd (of_decide_eq_false c) (by omega)⟩
    have k2 := (key.lift 1 rfl).weakObj 0 (.rows false 2 [[.slc false 2 1 0 l.length none, .bool true]]) (by simp [liftH]) rfl fun F w ρ _ h => ORel.row1 (xs := [.slc false 2 1 0 l.length none, .tt true]) ⟨Imp.refl _, Imp.ttb rfl, trivial⟩ h
    show FOk _ _ _ _ _ [.rows false 2 [[.slc false 2 1 0 (l ++ []).length none, .bool (b || true)]], .dead, .rows true 1 (rowsL (l ++ []))]
    rw [List.append_nil, Bool.or_true]
    exact k2
theorem rowsL_fine (l : List UInt8) : ((rowsL l).all fun r => r.all oneCell) = true ∧ ((rowsL l).all fun r => areKinds [.int .u8] r) = true := by
  constructor <;> (rw [List.all_eq_true]; intro r hr; obtain ⟨b, _, rfl⟩ := List.mem_map.1 hr; rfl)
def endS (l : List UInt8) (b : Bool) : ByteArray := if b then ⟨#[]⟩ else bS l
def endE (b : Bool) : Int := if b then 1 else 0
theorem oendsP (l : List UInt8) (b : Bool) :
    FOk Try.prog 39 [.ptr 0 2 0 0] [.rows false 2 [[.slc false 1 1 0 l.length none, .bool b]], .rows true 1 (rowsL l)] (.tuple [.str (endS l b), .int .i64 (endE b)]) [.rows false 2 [[.slc false 1 1 0 l.length none, .bool b]], .rows true 1 (rowsL l)] := by
  refine FOk.wp (oends_wp l b ?_)
  unfold oends_T
  have hl : (rowsL l).length = l.length := List.length_map _
  rw [List.take_of_length_le (by rw [hl]; exact Nat.le_refl _)]
  refine ⟨fun h => by subst h; exact ⟨rfl, rfl⟩, fun h => ?_⟩
  subst h
  exact ⟨(rowsL_fine l).1, decide_eq_true (by omega), (rowsL_fine l).2, by rw [rowBytes_map]; rfl, rfl⟩
end Go.L12
end

section
set_option linter.unusedVariables false
set_option maxRecDepth 100000
namespace Go.L12
open Go Go.Abs Go.Abs.AVal Go.Abs.AObj Go.Proofs
theorem oop_1 (c3 : Int) (c4 c5 c6 c7 c8 c9 : ByteArray) (c10 c11 : Int) (l : List UInt8) (b : Bool)
    (h1 : List.length (l ++ got (pI c3) ++ got (pS c4) ++ got (pS c5) ++ got (pS c6) ++ got (pS c7) ++ got (pS c8) ++ got (pS c9) ++ got (pI c10)) ≤ 35184372088832)
    (h2 : List.length (l ++ got (pI c3) ++ got (pS c4) ++ got (pS c5) ++ got (pS c6) ++ got (pS c7) ++ got (pS c8) ++ got (pS c9)) ≤ 35184372088832)
    (h3 : List.length (l ++ got (pI c3) ++ got (pS c4) ++ got (pS c5) ++ got (pS c6) ++ got (pS c7) ++ got (pS c8)) ≤ 35184372088832)
    (h4 : List.length (l ++ got (pI c3) ++ got (pS c4) ++ got (pS c5) ++ got (pS c6) ++ got (pS c7)) ≤ 35184372088832)
    (h5 : List.length (l ++ got (pI c3) ++ got (pS c4) ++ got (pS c5) ++ got (pS c6)) ≤ 35184372088832)
    (h6 : List.length (l ++ got (pI c3) ++ got (pS c4) ++ got (pS c5)) ≤ 35184372088832)
    (h7 : List.length (l ++ got (pI c3) ++ got (pS c4)) ≤ 35184372088832)
    (h8 : List.length (l ++ got (pI c3)) ≤ 35184372088832)
    (h9 : List.length l ≤ 35184372088832) :
    FOk Try.prog 37 ([ptr 0 2 0 0, agg (rQ c3 c4 c5 c6 c7 c8 c9 c10 c11)]) ([rows false 2 [[slc false 1 1 0 (List.length l) none, bool b]], rows true 1 (rowsL l)]) (tuple []) ([rows false 2 [[slc false 2 1 0 (List.length (l ++ got (pI c3) ++ got (pS c4) ++ got (pS c5) ++ got (pS c6) ++ got (pS c7) ++ got (pS c8) ++ got (pS c9) ++ got (pI c10) ++ got (pI c11))) none, bool (b || Option.isNone (pI c3) || Option.isNone (pS c4) || Option.isNone (pS c5) || Option.isNone (pS c6) || Option.isNone (pS c7) || Option.isNone (pS c8) || Option.isNone (pS c9) || Option.isNone (pI c10) || Option.isNone (pI c11))]], dead, rows true 1 (rowsL (l ++ got (pI c3) ++ got (pS c4) ++ got (pS c5) ++ got (pS c6) ++ got (pS c7) ++ got (pS c8) ++ got (pS c9) ++ got (pI c10) ++ got (pI c11)))]) :=
  (evalF_ok followed Try.func37 (by kernel_rfl) (show evalF Try.prog Try.f37 ([ptr 0 2 0 0, agg (rQ c3 c4 c5 c6 c7 c8 c9 c10 c11)]) ([rows false 2 [[slc false 1 1 0 (List.length l) none, bool b]], rows true 1 (rowsL l)]) ([Dec.use [0, 1] [ptr 0 2 0 0, iI c3] [rows false 2 [[slc false 1 1 0 (List.length l) none, bool b]], rows true 1 (rowsL l)] (tuple []) [rows false 2 [[slc false 2 1 0 (List.length (l ++ got (pI c3))) none, bool (b || Option.isNone (pI c3))]], dead, rows true 1 (rowsL (l ++ got (pI c3)))], Dec.use [0, 3] [ptr 0 2 0 0, str c4] [rows false 2 [[slc false 1 1 0 (List.length (l ++ got (pI c3))) none, bool (b || Option.isNone (pI c3))]], rows true 1 (rowsL (l ++ got (pI c3)))] (tuple []) [rows false 2 [[slc false 2 1 0 (List.length (l ++ got (pI c3) ++ got (pS c4))) none, bool (b || Option.isNone (pI c3) || Option.isNone (pS c4))]], dead, rows true 1 (rowsL (l ++ got (pI c3) ++ got (pS c4)))], Dec.use [0, 4] [ptr 0 2 0 0, str c5] [rows false 2 [[slc false 1 1 0 (List.length (l ++ got (pI c3) ++ got (pS c4))) none, bool (b || Option.isNone (pI c3) || Option.isNone (pS c4))]], rows true 1 (rowsL (l ++ got (pI c3) ++ got (pS c4)))] (tuple []) [rows false 2 [[slc false 2 1 0 (List.length (l ++ got (pI c3) ++ got (pS c4) ++ got (pS c5))) none, bool (b || Option.isNone (pI c3) || Option.isNone (pS c4) || Option.isNone (pS c5))]], dead, rows true 1 (rowsL (l ++ got (pI c3) ++ got (pS c4) ++ got (pS c5)))], Dec.use [0, 5] [ptr 0 2 0 0, str c6] [rows false 2 [[slc false 1 1 0 (List.length (l ++ got (pI c3) ++ got (pS c4) ++ got (pS c5))) none, bool (b || Option.isNone (pI c3) || Option.isNone (pS c4) || Option.isNone (pS c5))]], rows true 1 (rowsL (l ++ got (pI c3) ++ got (pS c4) ++ got (pS c5)))] (tuple []) [rows false 2 [[slc false 2 1 0 (List.length (l ++ got (pI c3) ++ got (pS c4) ++ got (pS c5) ++ got (pS c6))) none, bool (b || Option.isNone (pI c3) || Option.isNone (pS c4) || Option.isNone (pS c5) || Option.isNone (pS c6))]], dead, rows true 1 (rowsL (l ++ got (pI c3) ++ got (pS c4) ++ got (pS c5) ++ got (pS c6)))], Dec.use [0, 6] [ptr 0 2 0 0, str c7] [rows false 2 [[slc false 1 1 0 (List.length (l ++ got (pI c3) ++ got (pS c4) ++ got (pS c5) ++ got (pS c6))) none, bool (b || Option.isNone (pI c3) || Option.isNone (pS c4) || Option.isNone (pS c5) || Option.isNone (pS c6))]], rows true 1 (rowsL (l ++ got (pI c3) ++ got (pS c4) ++ got (pS c5) ++ got (pS c6)))] (tuple []) [rows false 2 [[slc false 2 1 0 (List.length (l ++ got (pI c3) ++ got (pS c4) ++ got (pS c5) ++ got (pS c6) ++ got (pS c7))) none, bool (b || Option.isNone (pI c3) || Option.isNone (pS c4) || Option.isNone (pS c5) || Option.isNone (pS c6) || Option.isNone (pS c7))]], dead, rows true 1 (rowsL (l ++ got (pI c3) ++ got (pS c4) ++ got (pS c5) ++ got (pS c6) ++ got (pS c7)))], Dec.use [0, 7] [ptr 0 2 0 0, str c8] [rows false 2 [[slc false 1 1 0 (List.length (l ++ got (pI c3) ++ got (pS c4) ++ got (pS c5) ++ got (pS c6) ++ got (pS c7))) none, bool (b || Option.isNone (pI c3) || Option.isNone (pS c4) || Option.isNone (pS c5) || Option.isNone (pS c6) || Option.isNone (pS c7))]], rows true 1 (rowsL (l ++ got (pI c3) ++ got (pS c4) ++ got (pS c5) ++ got (pS c6) ++ got (pS c7)))] (tuple []) [rows false 2 [[slc false 2 1 0 (List.length (l ++ got (pI c3) ++ got (pS c4) ++ got (pS c5) ++ got (pS c6) ++ got (pS c7) ++ got (pS c8))) none, bool (b || Option.isNone (pI c3) || Option.isNone (pS c4) || Option.isNone (pS c5) || Option.isNone (pS c6) || Option.isNone (pS c7) || Option.isNone (pS c8))]], dead, rows true 1 (rowsL (l ++ got (pI c3) ++ got (pS c4) ++ got (pS c5) ++ got (pS c6) ++ got (pS c7) ++ got (pS c8)))], Dec.use [0, 8] [ptr 0 2 0 0, str c9] [rows false 2 [[slc false 1 1 0 (List.length (l ++ got (pI c3) ++ got (pS c4) ++ got (pS c5) ++ got (pS c6) ++ got (pS c7) ++ got (pS c8))) none, bool (b || Option.isNone (pI c3) || Option.isNone (pS c4) || Option.isNone (pS c5) || Option.isNone (pS c6) || Option.isNone (pS c7) || Option.isNone (pS c8))]], rows true 1 (rowsL (l ++ got (pI c3) ++ got (pS c4) ++ got (pS c5) ++ got (pS c6) ++ got (pS c7) ++ got (pS c8)))] (tuple []) [rows false 2 [[slc false 2 1 0 (List.length (l ++ got (pI c3) ++ got (pS c4) ++ got (pS c5) ++ got (pS c6) ++ got (pS c7) ++ got (pS c8) ++ got (pS c9))) none, bool (b || Option.isNone (pI c3) || Option.isNone (pS c4) || Option.isNone (pS c5) || Option.isNone (pS c6) || Option.isNone (pS c7) || Option.isNone (pS c8) || Option.isNone (pS c9))]], dead, rows true 1 (rowsL (l ++ got (pI c3) ++ got (pS c4) ++ got (pS c5) ++ got (pS c6) ++ got (pS c7) ++ got (pS c8) ++ got (pS c9)))], Dec.use [0, 9] [ptr 0 2 0 0, iI c10] [rows false 2 [[slc false 1 1 0 (List.length (l ++ got (pI c3) ++ got (pS c4) ++ got (pS c5) ++ got (pS c6) ++ got (pS c7) ++ got (pS c8) ++ got (pS c9))) none, bool (b || Option.isNone (pI c3) || Option.isNone (pS c4) || Option.isNone (pS c5) || Option.isNone (pS c6) || Option.isNone (pS c7) || Option.isNone (pS c8) || Option.isNone (pS c9))]], rows true 1 (rowsL (l ++ got (pI c3) ++ got (pS c4) ++ got (pS c5) ++ got (pS c6) ++ got (pS c7) ++ got (pS c8) ++ got (pS c9)))] (tuple []) [rows false 2 [[slc false 2 1 0 (List.length (l ++ got (pI c3) ++ got (pS c4) ++ got (pS c5) ++ got (pS c6) ++ got (pS c7) ++ got (pS c8) ++ got (pS c9) ++ got (pI c10))) none, bool (b || Option.isNone (pI c3) || Option.isNone (pS c4) || Option.isNone (pS c5) || Option.isNone (pS c6) || Option.isNone (pS c7) || Option.isNone (pS c8) || Option.isNone (pS c9) || Option.isNone (pI c10))]], dead, rows true 1 (rowsL (l ++ got (pI c3) ++ got (pS c4) ++ got (pS c5) ++ got (pS c6) ++ got (pS c7) ++ got (pS c8) ++ got (pS c9) ++ got (pI c10)))], Dec.use [0, 10] [ptr 0 2 0 0, iI c11] [rows false 2 [[slc false 1 1 0 (List.length (l ++ got (pI c3) ++ got (pS c4) ++ got (pS c5) ++ got (pS c6) ++ got (pS c7) ++ got (pS c8) ++ got (pS c9) ++ got (pI c10))) none, bool (b || Option.isNone (pI c3) || Option.isNone (pS c4) || Option.isNone (pS c5) || Option.isNone (pS c6) || Option.isNone (pS c7) || Option.isNone (pS c8) || Option.isNone (pS c9) || Option.isNone (pI c10))]], rows true 1 (rowsL (l ++ got (pI c3) ++ got (pS c4) ++ got (pS c5) ++ got (pS c6) ++ got (pS c7) ++ got (pS c8) ++ got (pS c9) ++ got (pI c10)))] (tuple []) [rows false 2 [[slc false 2 1 0 (List.length (l ++ got (pI c3) ++ got (pS c4) ++ got (pS c5) ++ got (pS c6) ++ got (pS c7) ++ got (pS c8) ++ got (pS c9) ++ got (pI c10) ++ got (pI c11))) none, bool (b || Option.isNone (pI c3) || Option.isNone (pS c4) || Option.isNone (pS c5) || Option.isNone (pS c6) || Option.isNone (pS c7) || Option.isNone (pS c8) || Option.isNone (pS c9) || Option.isNone (pI c10) || Option.isNone (pI c11))]], dead, rows true 1 (rowsL (l ++ got (pI c3) ++ got (pS c4) ++ got (pS c5) ++ got (pS c6) ++ got (pS c7) ++ got (pS c8) ++ got (pS c9) ++ got (pI c10) ++ got (pI c11)))]]) = .ok (FRes.mk (tuple []) ([rows false 2 [[slc false 11 1 0 (List.length (l ++ got (pI c3) ++ got (pS c4) ++ got (pS c5) ++ got (pS c6) ++ got (pS c7) ++ got (pS c8) ++ got (pS c9) ++ got (pI c10) ++ got (pI c11))) none, bool (b || Option.isNone (pI c3) || Option.isNone (pS c4) || Option.isNone (pS c5) || Option.isNone (pS c6) || Option.isNone (pS c7) || Option.isNone (pS c8) || Option.isNone (pS c9) || Option.isNone (pI c10) || Option.isNone (pI c11))]], dead, rows true 9 [(rQ c3 c4 c5 c6 c7 c8 c9 c10 c11)], dead, dead, dead, dead, dead, dead, dead, dead, rows true 1 (rowsL (l ++ got (pI c3) ++ got (pS c4) ++ got (pS c5) ++ got (pS c6) ++ got (pS c7) ++ got (pS c8) ++ got (pS c9) ++ got (pI c10) ++ got (pI c11)))]) ((oU 2 35 [0, 10] [ptr 0 2 0 0, iI c11] [rows false 2 [[slc false 10 1 0 (List.length (l ++ got (pI c3) ++ got (pS c4) ++ got (pS c5) ++ got (pS c6) ++ got (pS c7) ++ got (pS c8) ++ got (pS c9) ++ got (pI c10))) none, bool (b || Option.isNone (pI c3) || Option.isNone (pS c4) || Option.isNone (pS c5) || Option.isNone (pS c6) || Option.isNone (pS c7) || Option.isNone (pS c8) || Option.isNone (pS c9) || Option.isNone (pI c10))]], dead, rows true 9 [(rQ c3 c4 c5 c6 c7 c8 c9 c10 c11)], dead, dead, dead, dead, dead, dead, dead, rows true 1 (rowsL (l ++ got (pI c3) ++ got (pS c4) ++ got (pS c5) ++ got (pS c6) ++ got (pS c7) ++ got (pS c8) ++ got (pS c9) ++ got (pI c10)))] [ptr 0 2 0 0, iI c11] [rows false 2 [[slc false 1 1 0 (List.length (l ++ got (pI c3) ++ got (pS c4) ++ got (pS c5) ++ got (pS c6) ++ got (pS c7) ++ got (pS c8) ++ got (pS c9) ++ got (pI c10))) none, bool (b || Option.isNone (pI c3) || Option.isNone (pS c4) || Option.isNone (pS c5) || Option.isNone (pS c6) || Option.isNone (pS c7) || Option.isNone (pS c8) || Option.isNone (pS c9) || Option.isNone (pI c10))]], rows true 1 (rowsL (l ++ got (pI c3) ++ got (pS c4) ++ got (pS c5) ++ got (pS c6) ++ got (pS c7) ++ got (pS c8) ++ got (pS c9) ++ got (pI c10)))] (tuple []) [rows false 2 [[slc false 2 1 0 (List.length (l ++ got (pI c3) ++ got (pS c4) ++ got (pS c5) ++ got (pS c6) ++ got (pS c7) ++ got (pS c8) ++ got (pS c9) ++ got (pI c10) ++ got (pI c11))) none, bool (b || Option.isNone (pI c3) || Option.isNone (pS c4) || Option.isNone (pS c5) || Option.isNone (pS c6) || Option.isNone (pS c7) || Option.isNone (pS c8) || Option.isNone (pS c9) || Option.isNone (pI c10) || Option.isNone (pI c11))]], dead, rows true 1 (rowsL (l ++ got (pI c3) ++ got (pS c4) ++ got (pS c5) ++ got (pS c6) ++ got (pS c7) ++ got (pS c8) ++ got (pS c9) ++ got (pI c10) ++ got (pI c11)))]) :: (tr 3 ++ ((oU 2 35 [0, 9] [ptr 0 2 0 0, iI c10] [rows false 2 [[slc false 9 1 0 (List.length (l ++ got (pI c3) ++ got (pS c4) ++ got (pS c5) ++ got (pS c6) ++ got (pS c7) ++ got (pS c8) ++ got (pS c9))) none, bool (b || Option.isNone (pI c3) || Option.isNone (pS c4) || Option.isNone (pS c5) || Option.isNone (pS c6) || Option.isNone (pS c7) || Option.isNone (pS c8) || Option.isNone (pS c9))]], dead, rows true 9 [(rQ c3 c4 c5 c6 c7 c8 c9 c10 c11)], dead, dead, dead, dead, dead, dead, rows true 1 (rowsL (l ++ got (pI c3) ++ got (pS c4) ++ got (pS c5) ++ got (pS c6) ++ got (pS c7) ++ got (pS c8) ++ got (pS c9)))] [ptr 0 2 0 0, iI c10] [rows false 2 [[slc false 1 1 0 (List.length (l ++ got (pI c3) ++ got (pS c4) ++ got (pS c5) ++ got (pS c6) ++ got (pS c7) ++ got (pS c8) ++ got (pS c9))) none, bool (b || Option.isNone (pI c3) || Option.isNone (pS c4) || Option.isNone (pS c5) || Option.isNone (pS c6) || Option.isNone (pS c7) || Option.isNone (pS c8) || Option.isNone (pS c9))]], rows true 1 (rowsL (l ++ got (pI c3) ++ got (pS c4) ++ got (pS c5) ++ got (pS c6) ++ got (pS c7) ++ got (pS c8) ++ got (pS c9)))] (tuple []) [rows false 2 [[slc false 2 1 0 (List.length (l ++ got (pI c3) ++ got (pS c4) ++ got (pS c5) ++ got (pS c6) ++ got (pS c7) ++ got (pS c8) ++ got (pS c9) ++ got (pI c10))) none, bool (b || Option.isNone (pI c3) || Option.isNone (pS c4) || Option.isNone (pS c5) || Option.isNone (pS c6) || Option.isNone (pS c7) || Option.isNone (pS c8) || Option.isNone (pS c9) || Option.isNone (pI c10))]], dead, rows true 1 (rowsL (l ++ got (pI c3) ++ got (pS c4) ++ got (pS c5) ++ got (pS c6) ++ got (pS c7) ++ got (pS c8) ++ got (pS c9) ++ got (pI c10)))]) :: (tr 3 ++ ((oU 2 38 [0, 8] [ptr 0 2 0 0, str c9] [rows false 2 [[slc false 8 1 0 (List.length (l ++ got (pI c3) ++ got (pS c4) ++ got (pS c5) ++ got (pS c6) ++ got (pS c7) ++ got (pS c8))) none, bool (b || Option.isNone (pI c3) || Option.isNone (pS c4) || Option.isNone (pS c5) || Option.isNone (pS c6) || Option.isNone (pS c7) || Option.isNone (pS c8))]], dead, rows true 9 [(rQ c3 c4 c5 c6 c7 c8 c9 c10 c11)], dead, dead, dead, dead, dead, rows true 1 (rowsL (l ++ got (pI c3) ++ got (pS c4) ++ got (pS c5) ++ got (pS c6) ++ got (pS c7) ++ got (pS c8)))] [ptr 0 2 0 0, str c9] [rows false 2 [[slc false 1 1 0 (List.length (l ++ got (pI c3) ++ got (pS c4) ++ got (pS c5) ++ got (pS c6) ++ got (pS c7) ++ got (pS c8))) none, bool (b || Option.isNone (pI c3) || Option.isNone (pS c4) || Option.isNone (pS c5) || Option.isNone (pS c6) || Option.isNone (pS c7) || Option.isNone (pS c8))]], rows true 1 (rowsL (l ++ got (pI c3) ++ got (pS c4) ++ got (pS c5) ++ got (pS c6) ++ got (pS c7) ++ got (pS c8)))] (tuple []) [rows false 2 [[slc false 2 1 0 (List.length (l ++ got (pI c3) ++ got (pS c4) ++ got (pS c5) ++ got (pS c6) ++ got (pS c7) ++ got (pS c8) ++ got (pS c9))) none, bool (b || Option.isNone (pI c3) || Option.isNone (pS c4) || Option.isNone (pS c5) || Option.isNone (pS c6) || Option.isNone (pS c7) || Option.isNone (pS c8) || Option.isNone (pS c9))]], dead, rows true 1 (rowsL (l ++ got (pI c3) ++ got (pS c4) ++ got (pS c5) ++ got (pS c6) ++ got (pS c7) ++ got (pS c8) ++ got (pS c9)))]) :: (tr 3 ++ ((oU 2 38 [0, 7] [ptr 0 2 0 0, str c8] [rows false 2 [[slc false 7 1 0 (List.length (l ++ got (pI c3) ++ got (pS c4) ++ got (pS c5) ++ got (pS c6) ++ got (pS c7))) none, bool (b || Option.isNone (pI c3) || Option.isNone (pS c4) || Option.isNone (pS c5) || Option.isNone (pS c6) || Option.isNone (pS c7))]], dead, rows true 9 [(rQ c3 c4 c5 c6 c7 c8 c9 c10 c11)], dead, dead, dead, dead, rows true 1 (rowsL (l ++ got (pI c3) ++ got (pS c4) ++ got (pS c5) ++ got (pS c6) ++ got (pS c7)))] [ptr 0 2 0 0, str c8] [rows false 2 [[slc false 1 1 0 (List.length (l ++ got (pI c3) ++ got (pS c4) ++ got (pS c5) ++ got (pS c6) ++ got (pS c7))) none, bool (b || Option.isNone (pI c3) || Option.isNone (pS c4) || Option.isNone (pS c5) || Option.isNone (pS c6) || Option.isNone (pS c7))]], rows true 1 (rowsL (l ++ got (pI c3) ++ got (pS c4) ++ got (pS c5) ++ got (pS c6) ++ got (pS c7)))] (tuple []) [rows false 2 [[slc false 2 1 0 (List.length (l ++ got (pI c3) ++ got (pS c4) ++ got (pS c5) ++ got (pS c6) ++ got (pS c7) ++ got (pS c8))) none, bool (b || Option.isNone (pI c3) || Option.isNone (pS c4) || Option.isNone (pS c5) || Option.isNone (pS c6) || Option.isNone (pS c7) || Option.isNone (pS c8))]], dead, rows true 1 (rowsL (l ++ got (pI c3) ++ got (pS c4) ++ got (pS c5) ++ got (pS c6) ++ got (pS c7) ++ got (pS c8)))]) :: (tr 3 ++ ((oU 2 38 [0, 6] [ptr 0 2 0 0, str c7] [rows false 2 [[slc false 6 1 0 (List.length (l ++ got (pI c3) ++ got (pS c4) ++ got (pS c5) ++ got (pS c6))) none, bool (b || Option.isNone (pI c3) || Option.isNone (pS c4) || Option.isNone (pS c5) || Option.isNone (pS c6))]], dead, rows true 9 [(rQ c3 c4 c5 c6 c7 c8 c9 c10 c11)], dead, dead, dead, rows true 1 (rowsL (l ++ got (pI c3) ++ got (pS c4) ++ got (pS c5) ++ got (pS c6)))] [ptr 0 2 0 0, str c7] [rows false 2 [[slc false 1 1 0 (List.length (l ++ got (pI c3) ++ got (pS c4) ++ got (pS c5) ++ got (pS c6))) none, bool (b || Option.isNone (pI c3) || Option.isNone (pS c4) || Option.isNone (pS c5) || Option.isNone (pS c6))]], rows true 1 (rowsL (l ++ got (pI c3) ++ got (pS c4) ++ got (pS c5) ++ got (pS c6)))] (tuple []) [rows false 2 [[slc false 2 1 0 (List.length (l ++ got (pI c3) ++ got (pS c4) ++ got (pS c5) ++ got (pS c6) ++ got (pS c7))) none, bool (b || Option.isNone (pI c3) || Option.isNone (pS c4) || Option.isNone (pS c5) || Option.isNone (pS c6) || Option.isNone (pS c7))]], dead, rows true 1 (rowsL (l ++ got (pI c3) ++ got (pS c4) ++ got (pS c5) ++ got (pS c6) ++ got (pS c7)))]) :: (tr 3 ++ ((oU 2 38 [0, 5] [ptr 0 2 0 0, str c6] [rows false 2 [[slc false 5 1 0 (List.length (l ++ got (pI c3) ++ got (pS c4) ++ got (pS c5))) none, bool (b || Option.isNone (pI c3) || Option.isNone (pS c4) || Option.isNone (pS c5))]], dead, rows true 9 [(rQ c3 c4 c5 c6 c7 c8 c9 c10 c11)], dead, dead, rows true 1 (rowsL (l ++ got (pI c3) ++ got (pS c4) ++ got (pS c5)))] [ptr 0 2 0 0, str c6] [rows false 2 [[slc false 1 1 0 (List.length (l ++ got (pI c3) ++ got (pS c4) ++ got (pS c5))) none, bool (b || Option.isNone (pI c3) || Option.isNone (pS c4) || Option.isNone (pS c5))]], rows true 1 (rowsL (l ++ got (pI c3) ++ got (pS c4) ++ got (pS c5)))] (tuple []) [rows false 2 [[slc false 2 1 0 (List.length (l ++ got (pI c3) ++ got (pS c4) ++ got (pS c5) ++ got (pS c6))) none, bool (b || Option.isNone (pI c3) || Option.isNone (pS c4) || Option.isNone (pS c5) || Option.isNone (pS c6))]], dead, rows true 1 (rowsL (l ++ got (pI c3) ++ got (pS c4) ++ got (pS c5) ++ got (pS c6)))]) :: (tr 3 ++ ((oU 2 38 [0, 4] [ptr 0 2 0 0, str c5] [rows false 2 [[slc false 4 1 0 (List.length (l ++ got (pI c3) ++ got (pS c4))) none, bool (b || Option.isNone (pI c3) || Option.isNone (pS c4))]], dead, rows true 9 [(rQ c3 c4 c5 c6 c7 c8 c9 c10 c11)], dead, rows true 1 (rowsL (l ++ got (pI c3) ++ got (pS c4)))] [ptr 0 2 0 0, str c5] [rows false 2 [[slc false 1 1 0 (List.length (l ++ got (pI c3) ++ got (pS c4))) none, bool (b || Option.isNone (pI c3) || Option.isNone (pS c4))]], rows true 1 (rowsL (l ++ got (pI c3) ++ got (pS c4)))] (tuple []) [rows false 2 [[slc false 2 1 0 (List.length (l ++ got (pI c3) ++ got (pS c4) ++ got (pS c5))) none, bool (b || Option.isNone (pI c3) || Option.isNone (pS c4) || Option.isNone (pS c5))]], dead, rows true 1 (rowsL (l ++ got (pI c3) ++ got (pS c4) ++ got (pS c5)))]) :: (tr 3 ++ ((oU 2 38 [0, 3] [ptr 0 2 0 0, str c4] [rows false 2 [[slc false 3 1 0 (List.length (l ++ got (pI c3))) none, bool (b || Option.isNone (pI c3))]], dead, rows true 9 [(rQ c3 c4 c5 c6 c7 c8 c9 c10 c11)], rows true 1 (rowsL (l ++ got (pI c3)))] [ptr 0 2 0 0, str c4] [rows false 2 [[slc false 1 1 0 (List.length (l ++ got (pI c3))) none, bool (b || Option.isNone (pI c3))]], rows true 1 (rowsL (l ++ got (pI c3)))] (tuple []) [rows false 2 [[slc false 2 1 0 (List.length (l ++ got (pI c3) ++ got (pS c4))) none, bool (b || Option.isNone (pI c3) || Option.isNone (pS c4))]], dead, rows true 1 (rowsL (l ++ got (pI c3) ++ got (pS c4)))]) :: (tr 3 ++ ((oU 2 35 [0, 1] [ptr 0 2 0 0, iI c3] [rows false 2 [[slc false 1 1 0 (List.length l) none, bool b]], rows true 1 (rowsL l), rows true 9 [(rQ c3 c4 c5 c6 c7 c8 c9 c10 c11)]] [ptr 0 2 0 0, iI c3] [rows false 2 [[slc false 1 1 0 (List.length l) none, bool b]], rows true 1 (rowsL l)] (tuple []) [rows false 2 [[slc false 2 1 0 (List.length (l ++ got (pI c3))) none, bool (b || Option.isNone (pI c3))]], dead, rows true 1 (rowsL (l ++ got (pI c3)))]) :: (tr 3 ++ []))))))))))))))))))) by kernel_rfl) (allP_of ⟨⟨(@Go.L12.onumP (c11) (l ++ got (pI c3) ++ got (pS c4) ++ got (pS c5) ++ got (pS c6) ++ got (pS c7) ++ got (pS c8) ++ got (pS c9) ++ got (pI c10)) (b || Option.isNone (pI c3) || Option.isNone (pS c4) || Option.isNone (pS c5) || Option.isNone (pS c6) || Option.isNone (pS c7) || Option.isNone (pS c8) || Option.isNone (pS c9) || Option.isNone (pI c10)) h1), rfl, rfl, rfl⟩, (trC 3 ⟨⟨(@Go.L12.onumP (c10) (l ++ got (pI c3) ++ got (pS c4) ++ got (pS c5) ++ got (pS c6) ++ got (pS c7) ++ got (pS c8) ++ got (pS c9)) (b || Option.isNone (pI c3) || Option.isNone (pS c4) || Option.isNone (pS c5) || Option.isNone (pS c6) || Option.isNone (pS c7) || Option.isNone (pS c8) || Option.isNone (pS c9)) h2), rfl, rfl, rfl⟩, (trC 3 ⟨⟨(@Go.L12.otextP (c9) (l ++ got (pI c3) ++ got (pS c4) ++ got (pS c5) ++ got (pS c6) ++ got (pS c7) ++ got (pS c8)) (b || Option.isNone (pI c3) || Option.isNone (pS c4) || Option.isNone (pS c5) || Option.isNone (pS c6) || Option.isNone (pS c7) || Option.isNone (pS c8)) h3), rfl, rfl, rfl⟩, (trC 3 ⟨⟨(@Go.L12.otextP (c8) (l ++ got (pI c3) ++ got (pS c4) ++ got (pS c5) ++ got (pS c6) ++ got (pS c7)) (b || Option.isNone (pI c3) || Option.isNone (pS c4) || Option.isNone (pS c5) || Option.isNone (pS c6) || Option.isNone (pS c7)) h4), rfl, rfl, rfl⟩, (trC 3 ⟨⟨(@Go.L12.otextP (c7) (l ++ got (pI c3) ++ got (pS c4) ++ got (pS c5) ++ got (pS c6)) (b || Option.isNone (pI c3) || Option.isNone (pS c4) || Option.isNone (pS c5) || Option.isNone (pS c6)) h5), rfl, rfl, rfl⟩, (trC 3 ⟨⟨(@Go.L12.otextP (c6) (l ++ got (pI c3) ++ got (pS c4) ++ got (pS c5)) (b || Option.isNone (pI c3) || Option.isNone (pS c4) || Option.isNone (pS c5)) h6), rfl, rfl, rfl⟩, (trC 3 ⟨⟨(@Go.L12.otextP (c5) (l ++ got (pI c3) ++ got (pS c4)) (b || Option.isNone (pI c3) || Option.isNone (pS c4)) h7), rfl, rfl, rfl⟩, (trC 3 ⟨⟨(@Go.L12.otextP (c4) (l ++ got (pI c3)) (b || Option.isNone (pI c3)) h8), rfl, rfl, rfl⟩, (trC 3 ⟨⟨(@Go.L12.onumP (c3) (l) (b) h9), rfl, rfl, rfl⟩, (trC 3 trivial)⟩)⟩)⟩)⟩)⟩)⟩)⟩)⟩)⟩)).move ([0, 1, 11]) (by kernel_rfl) (by kernel_rfl) (by kernel_rfl)

end Go.L12
end

section
set_option linter.unusedVariables false
set_option linter.unusedSimpArgs false
set_option maxRecDepth 100000
namespace Go.L12
open Go Go.Abs Go.Proofs

def seqL : List (Option (List UInt8)) → Option (List UInt8)
  | [] => some []
  | o :: r =>
    match o with
    | none => none
    | some b =>
      match seqL r with
      | none => none
      | some bs => some (b ++ bs)
theorem seqL_eq : ∀ (os : List (Option (List UInt8))), seqL os = if os.any Option.isNone = true then none else some (os.flatMap got)
  | [] => rfl
  | none :: r => rfl
  | some b :: r => by
    simp only [seqL, seqL_eq r, List.any_cons, Option.isNone_some, Bool.false_or, List.flatMap_cons, got, Option.getD_some]
    cases h : r.any Option.isNone <;> simp
theorem seqO_L (f : Nat → Option (List UInt8)) : ∀ (d i : Nat), seqO f d i = seqL ((List.range' i d).map f)
  | 0, i => rfl
  | d + 1, i => by
    rw [List.range'_succ, List.map_cons]
    simp only [seqO, seqL, seqO_L f d (i + 1)]
    all_goals (cases f i with
      | none => rfl
      | some b => cases seqL (List.map f (List.range' (i + 1) d)) <;> rfl)
def putAll : List Nat → List AVal → Option (List UInt8)
  | t :: ts, v :: vs =>
    match putF t v with
    | none => none
    | some b =>
      match putAll ts vs with
      | none => none
      | some bs => some (b ++ bs)
  | _, _ => some []
theorem foldG : ∀ (os : List (Option (List UInt8))) (l : List UInt8), os.foldl (fun l o => l ++ got o) l = l ++ os.flatMap got
  | [], l => by simp
  | o :: os, l => by rw [List.foldl_cons, foldG os, List.flatMap_cons, List.append_assoc]
theorem foldB : ∀ (os : List (Option (List UInt8))) (b : Bool), os.foldl (fun b o => b || o.isNone) b = (b || os.any Option.isNone)
  | [], b => by simp
  | o :: os, b => by rw [List.foldl_cons, foldB os, List.any_cons, Bool.or_assoc]
def takeAll : List Nat → ByteArray → Option (List AVal × ByteArray)
  | [], s => some ([], s)
  | t :: ts, s =>
    match takeF t s with
    | none => none
    | some x =>
      match takeAll ts x.2 with
      | none => none
      | some y => some (x.1 :: y.1, y.2)
def setAll {α : Type} (put : Nat → α → AVal → α) : Nat → α → List AVal → α
  | _, u, [] => u
  | i, u, v :: vs => setAll put (i + 1) (put i u v) vs
theorem seqG_all {α : Type} (ty : Nat → Nat) (put : Nat → α → AVal → α) (g : Nat → α → ByteArray → Option (α × ByteArray)) (hg : ∀ i u s, g i u s = (takeF (ty i) s).map fun x => (put i u x.1, x.2)) :
    ∀ (d i : Nat) (u : α) (s : ByteArray), seqG g d i u s = (takeAll ((List.range' i d).map ty) s).map fun y => (setAll put i u y.1, y.2)
  | 0, i, u, s => rfl
  | d + 1, i, u, s => by
    rw [List.range'_succ, List.map_cons]
    simp only [seqG, takeAll, hg]
    cases h : takeF (ty i) s with
    | none => rfl
    | some x =>
      simp only [Option.map_some]
      rw [seqG_all ty put g hg d (i + 1)]
      cases h2 : takeAll ((List.range' (i + 1) d).map ty) x.2 with
      | none => rfl
      | some y => rfl

def isB (t : Nat) (v : AVal) : Prop := if t = 101 then ∃ b, v = .bool b else if t = 104 then ∃ s, v = .str s else ∃ n, v = .int .i64 n
theorem tkOf {n : Nat} (hn : n ≤ 1099511627776) (r : List UInt8) : (rdV (lB (bS (vbl n ++ r)))) = (n, (vbl n).length, 0) := by
  rw [lB_bS]; exact rdV_vbl (by omega) r
theorem tkR_of {n : Nat} (hn : n ≤ 1099511627776) (r : List UInt8) : tkR (bS (vbl n ++ r)) = bS r ∧ tkV (bS (vbl n ++ r)) = n := by
  unfold tkR tkV
  rw [tkOf hn]
  refine ⟨lB_inj ?_, rfl⟩
  rw [lB_extract, lB_bS, lB_bS, List.drop_left, bS_size, List.length_append, Nat.add_sub_cancel_left, List.take_length]
theorem tI_of {n : Int} {m : Int} (h0 : 0 ≤ n) (hm : n ≤ m) (hM : m ≤ 1099511627776) (r : List UInt8) : tI m (bS (vbl n.toNat ++ r)) = some (n, bS r) := by
  obtain ⟨e1, e2⟩ := tkR_of (n := n.toNat) (by omega) r
  have ho : tkOk (bS (vbl n.toNat ++ r)) m = true := tkOk_iff.2 ⟨by rw [tkOf (by omega)], by rw [e2]; omega⟩
  unfold tI
  rw [if_pos ho, e1, e2, Int.toNat_of_nonneg h0]
theorem tI_back {m : Int} {s r : ByteArray} {n : Int} (h : tI m s = some (n, r)) : 0 ≤ n ∧ n ≤ m ∧ lB s = vbl n.toNat ++ lB r := by
  unfold tI at h
  split at h
  · rename_i ho
    cases h
    have hk := tkOk_iff.1 ho
    obtain ⟨b1, b2, b3⟩ := rdV_back (l := lB s) (n := (rdV (lB s)).1) (k := (rdV (lB s)).2.1) (by rw [← hk.1])
    refine ⟨tkV_nn s, hk.2, ?_⟩
    unfold tkV tkR
    rw [Int.toNat_natCast, ← b3, lB_extract, List.take_of_length_le (l := (lB s).drop _) (by rw [List.length_drop, lB_length]; exact Nat.le_refl _), List.take_append_drop]
  · cases h
theorem takeB_put {t : Nat} {v : AVal} {b : List UInt8} (hv : isB t v) (h : putB t v = some b) (r : List UInt8) : takeB t (bS (b ++ r)) = some (v, bS r) := by
  unfold isB at hv
  unfold putB at h
  unfold takeB
  by_cases h1 : t = 101
  · rw [if_pos h1] at hv h ⊢
    obtain ⟨x, rfl⟩ := hv
    unfold pB at h
    cases h
    have e : [if (AVal.bool x).toBool = true then (1 : UInt8) else 0] = vbl (if x = true then 1 else 0) := by cases x <;> (rw [vbl_lt (by simp)]; rfl)
    rw [e]
    have hle : (if x = true then (1 : Nat) else 0) ≤ 1 := by cases x <;> simp
    obtain ⟨e1, e2⟩ := tkR_of (n := if x = true then 1 else 0) (by omega) r
    have ho : tkOk (bS (vbl (if x = true then 1 else 0) ++ r)) 1 = true := tkOk_iff.2 ⟨by rw [tkOf (by omega)], by rw [e2]; omega⟩
    unfold tB
    rw [if_pos ho, e1, e2]
    cases x <;> rfl
  · rw [if_neg h1] at hv h ⊢
    by_cases h2 : t = 104
    · rw [if_pos h2] at hv h ⊢
      obtain ⟨x, rfl⟩ := hv
      unfold pS at h
      split at h
      · rename_i hs
        cases h
        have hs : x.size ≤ 262144 := hs
        show Option.map _ (tS (bS (vbl x.size ++ lB x ++ r))) = _
        rw [List.append_assoc]
        obtain ⟨e1, e2⟩ := tkR_of (n := x.size) (by omega) (lB x ++ r)
        have ho : tkOk (bS (vbl x.size ++ (lB x ++ r))) 262144 = true := tkOk_iff.2 ⟨by rw [tkOf (by omega)], by rw [e2]; omega⟩
        unfold tS
        rw [if_pos ho, e1, e2, if_pos (by rw [bS_size, List.length_append, lB_length]; omega), Int.toNat_natCast]
        have k1 : (bS (lB x ++ r)).extract 0 x.size = x := lB_inj (by rw [lB_extract, lB_bS, List.drop_zero, Nat.sub_zero, List.take_left' (lB_length x)])
        have k2 : (bS (lB x ++ r)).extract x.size (bS (lB x ++ r)).size = bS r := lB_inj (by
          rw [lB_extract, lB_bS, lB_bS, List.drop_left' (lB_length x), bS_size, List.length_append, lB_length, Nat.add_sub_cancel_left, List.take_length])
        rw [k1, k2]; rfl
      · cases h
    · rw [if_neg h2] at hv h ⊢
      obtain ⟨x, rfl⟩ := hv
      unfold pI at h
      split at h
      · rename_i hs
        cases h
        have hs := of_decide_eq_true hs
        have hs : 0 ≤ x ∧ x ≤ 1099511627776 := hs
        show Option.map _ (tI _ (bS (vbl x.toNat ++ r))) = _
        rw [tI_of hs.1 hs.2 (by omega)]
        rfl
      · cases h
theorem tB_back {s r : ByteArray} {x : Bool} (h : tB s = some (x, r)) : lB s = [if x = true then (1 : UInt8) else 0] ++ lB r := by
  unfold tB at h
  split at h
  · rename_i ho
    have ht : tI 1 s = some (tkV s, tkR s) := by unfold tI; rw [if_pos ho]
    obtain ⟨k1, k2, k3⟩ := tI_back ht
    injection h with h
    injection h with h1 h2
    subst h2
    rw [k3]
    congr 1
    have hv : tkV s = 0 ∨ tkV s = 1 := by omega
    subst h1
    rcases hv with e | e <;> rw [e] <;> (rw [vbl_lt (by decide)]; rfl)
  · cases h
theorem cut_back (q : ByteArray) (n : Nat) (hn : n ≤ q.size) : (q.extract 0 n).size = n ∧ lB q = lB (q.extract 0 n) ++ lB (q.extract n q.size) := by
  constructor
  · rw [← lB_length, lB_extract, List.drop_zero, Nat.sub_zero, List.length_take, lB_length]; omega
  · rw [lB_extract, lB_extract, List.drop_zero, Nat.sub_zero, List.take_of_length_le (l := (lB q).drop n) (by rw [List.length_drop, lB_length]; exact Nat.le_refl _), List.take_append_drop]
theorem tS_back {s r x : ByteArray} (h : tS s = some (x, r)) : pS x = some (vbl x.size ++ lB x) ∧ lB s = (vbl x.size ++ lB x) ++ lB r := by
  unfold tS at h
  split at h
  · rename_i ho
    split at h
    · rename_i hv
      have ht : tI 262144 s = some (tkV s, tkR s) := by unfold tI; rw [if_pos ho]
      obtain ⟨k1, k2, k3⟩ := tI_back ht
      injection h with h
      injection h with h1 h2
      obtain ⟨c1, c2⟩ := cut_back (tkR s) (tkV s).toNat (by omega)
      rw [h1] at c1 c2
      rw [h2] at c2
      refine ⟨?_, ?_⟩
      · unfold pS; rw [if_pos (by omega)]
      · rw [k3, c2, c1, List.append_assoc]
    · cases h
  · cases h
theorem putB_take {t : Nat} {v : AVal} {s r : ByteArray} (h : takeB t s = some (v, r)) : isB t v ∧ ∃ b, putB t v = some b ∧ lB s = b ++ lB r := by
  unfold takeB at h
  unfold isB putB
  by_cases h1 : t = 101
  · simp only [if_pos h1] at h ⊢
    rw [Option.map_eq_some_iff] at h
    obtain ⟨⟨x, y⟩, hx, e⟩ := h
    injection e with e1 e2
    subst e1; subst e2
    exact ⟨⟨_, rfl⟩, _, rfl, tB_back hx⟩
  · simp only [if_neg h1] at h ⊢
    by_cases h2 : t = 104
    · simp only [if_pos h2] at h ⊢
      rw [Option.map_eq_some_iff] at h
      obtain ⟨⟨x, y⟩, hx, e⟩ := h
      injection e with e1 e2
      subst e1; subst e2
      exact ⟨⟨_, rfl⟩, _, (tS_back hx).1, (tS_back hx).2⟩
    · simp only [if_neg h2] at h ⊢
      rw [Option.map_eq_some_iff] at h
      obtain ⟨⟨x, y⟩, hx, e⟩ := h
      injection e with e1 e2
      subst e1; subst e2
      obtain ⟨k1, k2, k3⟩ := tI_back hx
      refine ⟨⟨_, rfl⟩, _, ?_, k3⟩
      show pI x = _
      unfold pI
      rw [if_pos (show nOk x = true from decide_eq_true ⟨k1, k2⟩)]

def isR (t : Nat) (row : List AVal) : Prop := ∃ x y, row = [x, y] ∧ isB (t0 t) x ∧ isB 104 y
def isL (t : Nat) (rs : List (List AVal)) : Prop := ∀ r ∈ rs, isR t r
def isF (t : Nat) (v : AVal) : Prop := if t = 111 then ∃ rs, v = listV rs ∧ isL 111 rs else if t = 112 then ∃ rs, v = listV rs ∧ isL 112 rs else isB t v
theorem takeR_put {t : Nat} {row : List AVal} {b : List UInt8} (hv : isR t row) (h : putR t row = some b) (r : List UInt8) : takeR t (bS (b ++ r)) = some (row, bS r) := by
  obtain ⟨x, y, rfl, hx, hy⟩ := hv
  unfold putR at h
  split at h
  · cases h
  · rename_i b1 h1
    split at h
    · cases h
    · rename_i b2 h2
      cases h
      have h1 : putB (t0 t) x = some b1 := h1
      have h2 : putB 104 y = some b2 := h2
      unfold takeR
      rw [List.append_assoc, takeB_put hx h1]
      dsimp only
      rw [takeB_put hy h2]
theorem putR_take {t : Nat} {row : List AVal} {s r : ByteArray} (h : takeR t s = some (row, r)) : isR t row ∧ ∃ b, putR t row = some b ∧ lB s = b ++ lB r := by
  unfold takeR at h
  split at h
  · cases h
  · rename_i x h1
    split at h
    · cases h
    · rename_i y h2
      cases h
      obtain ⟨k1, b1, k2, k3⟩ := putB_take (v := x.1) (r := x.2) h1
      obtain ⟨k4, b2, k5, k6⟩ := putB_take (v := y.1) (r := y.2) h2
      refine ⟨⟨_, _, rfl, k1, k4⟩, b1 ++ b2, ?_, by rw [k3, k6, List.append_assoc]⟩
      show (match putB (t0 t) x.1 with | none => none | some a => match putB 104 y.1 with | none => none | some b => some (a ++ b)) = _
      rw [k2, k5]
theorem seqO_rows (t : Nat) (rs : List (List AVal)) : seqO (fun k => putR t (rs.getD k [])) rs.length 0 = seqL (rs.map (putR t)) := by
  rw [seqO_L]
  congr 1
  apply List.ext_getElem
  · simp
  · intro i h1 h2
    simp only [List.getElem_map, List.getElem_range', Nat.zero_add, Nat.one_mul]
    congr 1
    rw [List.getD_eq_getElem?_getD, List.getElem?_eq_getElem (by simpa using h2)]; rfl
theorem seqG_put {t : Nat} : ∀ (rs : List (List AVal)) {b : List UInt8}, isL t rs → seqL (rs.map (putR t)) = some b → ∀ (i : Nat) (u : List (List AVal)) (r : List UInt8), seqG (tkG t) rs.length i u (bS (b ++ r)) = some (u ++ rs, bS r)
  | [], b, _, h, i, u, r => by cases h; simp [seqG]
  | row :: rs, b, hv, h, i, u, r => by
    simp only [List.map_cons, seqL] at h
    split at h
    · cases h
    · rename_i b1 h1
      split at h
      · cases h
      · rename_i bs h2
        cases h
        have e : tkG t i u (bS (b1 ++ bs ++ r)) = some (u ++ [row], bS (bs ++ r)) := by
          unfold tkG
          rw [List.append_assoc, takeR_put (hv row (by simp)) h1]; rfl
        simp only [List.length_cons, seqG]
        rw [e]
        dsimp only
        rw [seqG_put rs (fun q hq => hv q (by simp [hq])) h2 (i + 1) (u ++ [row]) r, List.append_assoc]; rfl
theorem seqG_take {t : Nat} : ∀ (d i : Nat) (u : List (List AVal)) (s : ByteArray) {x : List (List AVal) × ByteArray}, seqG (tkG t) d i u s = some x → ∃ rs, x.1 = u ++ rs ∧ rs.length = d ∧ isL t rs ∧ ∃ b, seqL (rs.map (putR t)) = some b ∧ lB s = b ++ lB x.2
  | 0, i, u, s, x, h => by cases h; exact ⟨[], by simp, rfl, (fun r hr => by cases hr), [], rfl, rfl⟩
  | d + 1, i, u, s, x, h => by
    simp only [seqG] at h
    split at h
    · cases h
    · rename_i y hy
      unfold tkG at hy
      rw [Option.map_eq_some_iff] at hy
      obtain ⟨z, hz, rfl⟩ := hy
      obtain ⟨k1, b1, k2, k3⟩ := putR_take (row := z.1) (r := z.2) hz
      obtain ⟨rs, e1, e2, e3, b2, e4, e5⟩ := seqG_take d (i + 1) _ _ h
      refine ⟨z.1 :: rs, by rw [e1]; simp, by simp [e2], fun q hq => ?_, b1 ++ b2, ?_, ?_⟩
      · rcases List.mem_cons.1 hq with rfl | hq
        · exact k1
        · exact e3 q hq
      · simp only [List.map_cons, seqL]; rw [k2]; dsimp only; rw [e4]
      · rw [k3, e5, List.append_assoc]
theorem mx_le (t : Nat) : mx t ≤ 64 := by unfold mx; split <;> omega
theorem tL_put {t : Nat} {rs : List (List AVal)} {b : List UInt8} (hv : isL t rs) (h : pL t rs = some b) (r : List UInt8) : tL t (bS (b ++ r)) = some (rs, bS r) := by
  have hmx := mx_le t
  unfold pL at h
  split at h
  · rename_i hm
    rw [seqO_rows] at h
    split at h
    · cases h
    · rename_i b1 h1
      cases h
      unfold tL
      have e := tI_of (n := (rs.length : Int)) (m := ((mx t : Nat) : Int)) (by omega) (by omega) (by omega) (b1 ++ r)
      rw [Int.toNat_natCast] at e
      rw [List.append_assoc, e]
      dsimp only
      rw [Int.toNat_natCast, seqG_put rs hv h1]; rfl
  · cases h
theorem pL_take {t : Nat} {s : ByteArray} {x : List (List AVal) × ByteArray} (h : tL t s = some x) : isL t x.1 ∧ ∃ b, pL t x.1 = some b ∧ lB s = b ++ lB x.2 := by
  unfold tL at h
  split at h
  · cases h
  · rename_i y hy
    obtain ⟨k1, k2, k3⟩ := tI_back (n := y.1) (r := y.2) hy
    obtain ⟨rs, e1, e2, e3, b, e4, e5⟩ := seqG_take _ _ _ _ h
    rw [List.nil_append] at e1
    rw [e1]
    refine ⟨e3, vbl y.1.toNat ++ b, ?_, by rw [k3, e5, List.append_assoc]⟩
    unfold pL
    rw [if_pos (by omega), seqO_rows, e4, e2]
theorem take_put {t : Nat} {v : AVal} {b : List UInt8} (hv : isF t v) (h : putF t v = some b) (r : List UInt8) : takeF t (bS (b ++ r)) = some (v, bS r) := by
  unfold isF at hv
  unfold putF at h
  unfold takeF
  by_cases h1 : t = 111
  · rw [if_pos h1] at hv h ⊢
    obtain ⟨rs, rfl, hr⟩ := hv
    rw [tL_put hr h r]; rfl
  · rw [if_neg h1] at hv h ⊢
    by_cases h2 : t = 112
    · rw [if_pos h2] at hv h ⊢
      obtain ⟨rs, rfl, hr⟩ := hv
      rw [tL_put hr h r]; rfl
    · rw [if_neg h2] at hv h ⊢
      exact takeB_put hv h r
theorem put_take {t : Nat} {v : AVal} {s r : ByteArray} (h : takeF t s = some (v, r)) : isF t v ∧ ∃ b, putF t v = some b ∧ lB s = b ++ lB r := by
  unfold takeF at h
  unfold isF putF
  by_cases h1 : t = 111
  · simp only [if_pos h1] at h ⊢
    rw [Option.map_eq_some_iff] at h
    obtain ⟨x, hx, e⟩ := h
    injection e with e1 e2
    subst e1; subst e2
    obtain ⟨k1, k2⟩ := pL_take hx
    exact ⟨⟨_, rfl, k1⟩, k2⟩
  · simp only [if_neg h1] at h ⊢
    by_cases h2 : t = 112
    · simp only [if_pos h2] at h ⊢
      rw [Option.map_eq_some_iff] at h
      obtain ⟨x, hx, e⟩ := h
      injection e with e1 e2
      subst e1; subst e2
      obtain ⟨k1, k2⟩ := pL_take hx
      exact ⟨⟨_, rfl, k1⟩, k2⟩
    · simp only [if_neg h2] at h ⊢
      exact putB_take h

def allF : List Nat → List AVal → Prop
  | [], [] => True
  | t :: ts, v :: vs => isF t v ∧ allF ts vs
  | _, _ => False
theorem got_pI (n : Int) : (got (pI n)).length ≤ 300000 := by
  cases h : pI n with
  | none => simp
  | some b => exact pI_len h
theorem got_pS (s : ByteArray) : (got (pS s)).length ≤ 300000 := by
  cases h : pS s with
  | none => simp
  | some b => exact pS_len h
theorem seqO_all (ty : Nat → Nat) (val : Nat → AVal) (f : Nat → Option (List UInt8)) (hf : ∀ i, f i = putF (ty i) (val i)) : ∀ d i, seqO f d i = putAll ((List.range' i d).map ty) ((List.range' i d).map val) := by
  intro d
  induction d with
  | zero => intro i; rfl
  | succ d ih =>
    intro i
    rw [List.range'_succ, List.map_cons, List.map_cons]
    simp only [seqO, putAll, hf, ih]
    all_goals (cases putF (ty i) (val i) with
      | none => rfl
      | some b => cases putAll ((List.range' (i + 1) d).map ty) ((List.range' (i + 1) d).map val) <;> rfl)
theorem putAll_L : ∀ (ts : List Nat) (vs : List AVal), putAll ts vs = seqL (List.zipWith putF ts vs) := by
  intro ts
  induction ts with
  | nil => intro vs; cases vs <;> rfl
  | cons t ts ih =>
    intro vs
    cases vs with
    | nil => rfl
    | cons v vs =>
      simp only [putAll, List.zipWith, seqL, ih]
theorem takeAll_put : ∀ {ts : List Nat} {vs : List AVal} {b : List UInt8}, allF ts vs → putAll ts vs = some b → ∀ r, takeAll ts (bS (b ++ r)) = some (vs, bS r)
  | [], [], b, _, h, r => by cases h; rfl
  | t :: ts, v :: vs, b, hv, h, r => by
    simp only [putAll] at h
    split at h
    · cases h
    · rename_i b1 h1
      split at h
      · cases h
      · rename_i bs h2
        cases h
        simp only [takeAll]
        rw [List.append_assoc, take_put hv.1 h1]
        dsimp only
        rw [takeAll_put hv.2 h2 r]
  | [], _ :: _, _, h, _, _ => h.elim
  | _ :: _, [], _, h, _, _ => h.elim
theorem putAll_take : ∀ {ts : List Nat} {vs : List AVal} {s r : ByteArray}, takeAll ts s = some (vs, r) → allF ts vs ∧ ∃ b, putAll ts vs = some b ∧ lB s = b ++ lB r
  | [], vs, s, r, h => by cases h; exact ⟨trivial, [], rfl, rfl⟩
  | t :: ts, vs, s, r, h => by
    simp only [takeAll] at h
    split at h
    · cases h
    · rename_i x h1
      split at h
      · cases h
      · rename_i y h2
        cases h
        obtain ⟨k1, b1, k2, k3⟩ := put_take (v := x.1) (r := x.2) h1
        obtain ⟨k4, b2, k5, k6⟩ := putAll_take (vs := y.1) (r := y.2) h2
        refine ⟨⟨k1, k4⟩, b1 ++ b2, ?_, ?_⟩
        · simp only [putAll]; rw [k2]; dsimp only; rw [k5]
        · rw [k3, k6, List.append_assoc]

def Is (c : Nat) (ts : List Nat) (s : ByteArray) (vs : List AVal) : Prop := ∃ s' : ByteArray, lB s = UInt8.ofNat c :: lB s' ∧ takeAll ts s' = some (vs, ⟨#[]⟩)
theorem Is.put {c : Nat} {ts : List Nat} {vs : List AVal} {b : List UInt8} (hv : allF ts vs) (h : putAll ts vs = some b) : Is c ts (bS (UInt8.ofNat c :: b)) vs :=
  ⟨bS b, by rw [lB_bS, lB_bS], by have := takeAll_put hv h []; rw [List.append_nil] at this; exact this⟩
theorem Is.back {c : Nat} {ts : List Nat} {s : ByteArray} {vs : List AVal} (h : Is c ts s vs) : allF ts vs ∧ ∃ b, putAll ts vs = some b ∧ s = bS (UInt8.ofNat c :: b) := by
  obtain ⟨s', h1, h2⟩ := h
  obtain ⟨k1, b, k2, k3⟩ := putAll_take h2
  refine ⟨k1, b, k2, lB_inj ?_⟩
  rw [lB_bS, h1, k3]
  simp
theorem Is.same {c : Nat} {ts : List Nat} {s : ByteArray} {vs ws : List AVal} (h : Is c ts s vs) (h' : Is c ts s ws) : vs = ws := by
  obtain ⟨s', h1, h2⟩ := h
  obtain ⟨s2, h3, h4⟩ := h'
  rw [h1] at h3
  injection h3 with _ e
  have e := lB_inj e
  subst e
  rw [h2] at h4
  injection h4 with h4
  exact congrArg Prod.fst h4
theorem mk_of {c : Nat} {s s' : ByteArray} (h : lB s = UInt8.ofNat c :: lB s') : mk c s = (s', false) := by
  have hs : s.size = s'.size + 1 := by rw [← lB_length, h, List.length_cons, lB_length]
  unfold mk
  rw [if_pos ⟨by rw [h]; rfl, by omega⟩]
  congr 1
  apply lB_inj
  rw [lB_extract, h, List.drop_one, List.tail_cons, List.take_of_length_le (by rw [lB_length, hs]; omega)]
end Go.L12
end

section
set_option linter.unusedVariables false
set_option maxRecDepth 100000
namespace Go.L12
open Go Go.Abs Go.Abs.AVal Go.Abs.AObj Go.Proofs
def rgpC (i : Int) : Regs := mkR 148 [(0, .ptr 0 2 0 0), (15, .slc false 1 1 0 20 none), (16, .int .i64 20), (17, .int .i64 i)]
abbrev hppC (u0 : List AVal) (k : Nat) (bs : List (List AVal)) : AState := [.rows false 2 [[.ptr 0 2 0 0, .slc false 4 1 0 k none]], .rows false 1 (flC 3), .dead, .rows true 20 [u0], .trows 5 true 1 bs]
theorem pCI0_1 (u0 : List AVal) (i : Int) (j k : Nat) (bs : List (List AVal))
    (h1 : nOk (toInt (List.getD u0 j any)) = true)
    (h2 : k = List.length bs)
    (h3 : List.length bs ≤ 70368744177664)
    (h4 : decide (j + 1 ≤ 20) = true)
    (h5 : areKinds [Kind.int IntKind.i64] [List.getD u0 j any] = true)
    (h6 : asType Try.prog 20 [List.getD (List.getD (flC 3) (Int.toNat i) []) 0 any] = iface 100 (ptr 3 20 0 j))
    (h7 : decide (Int.toNat i < 20) = true)
    (h8 : decide (0 ≤ i ∧ i < (↑20 : Int)) = true)
    (h9 : decide (i < 20) = true) :
    TripN Try.prog 4 (loopNo Try.f64 0) (rgpC i) (hppC u0 k bs) (AExit.normal) (mkR 148 [(0, ptr 0 2 0 0), (15, slc false 1 1 0 20 none), (16, iI 20), (17, iI (IntKind.wrap IntKind.i64 (i + 1)))]) ([rows false 2 [[ptr 0 2 0 0, slc false 4 1 0 (k + List.length (nRows (toInt (List.getD u0 j any)))) none]], rows false 1 (flC 3), dead, rows true 20 [u0], trows 5 true 1 (bs ++ nRows (toInt (List.getD u0 j any)))]) :=
  evalT (st := St.mk (rgpC i) (hppC u0 k bs) ([Dec.br true, Dec.rwl (iface 100 (ptr 3 20 0 j)), Dec.use [0, 4] [ptr 0 2 0 0, iI (toInt (List.getD u0 j any))] [rows false 2 [[ptr 0 2 0 0, slc false 1 1 0 k none]], trows 5 true 1 bs] (tuple []) [rows false 2 [[ptr 0 2 0 0, slc false 2 1 0 (k + List.length (nRows (toInt (List.getD u0 j any)))) none]], dead, trows 5 true 1 (bs ++ nRows (toInt (List.getD u0 j any)))]]) []) (st' := St.mk (mkR 148 [(0, ptr 0 2 0 0), (5, iface 100 (ptr 3 20 0 j)), (6, ptr 3 20 0 j), (15, slc false 1 1 0 20 none), (16, iI 20), (17, iI (IntKind.wrap IntKind.i64 (i + 1))), (18, tt true), (19, ptr 1 1 (Int.toNat i) 0), (20, iface 100 (ptr 3 20 0 j)), (21, iface 100 (ptr 3 20 0 j)), (22, tuple [ptr 3 20 0 j, tt true]), (23, tt true), (24, ptr 3 20 0 j), (25, ptr 0 2 0 0), (26, ptr 3 20 0 j), (27, ptr 3 20 0 j), (28, iI (toInt (List.getD u0 j any))), (29, tuple []), (147, iI (IntKind.wrap IntKind.i64 (i + 1)))]) ([rows false 2 [[ptr 0 2 0 0, slc false 5 1 0 (k + List.length (nRows (toInt (List.getD u0 j any)))) none]], rows false 1 (flC 3), dead, rows true 20 [u0], dead, trows 5 true 1 (bs ++ nRows (toInt (List.getD u0 j any)))]) ([]) ((oU 4 68 [0, 4] [ptr 0 2 0 0, iI (toInt (List.getD u0 j any))] [rows false 2 [[ptr 0 2 0 0, slc false 4 1 0 k none]], rows false 1 (flC 3), dead, rows true 20 [u0], trows 5 true 1 bs] [ptr 0 2 0 0, iI (toInt (List.getD u0 j any))] [rows false 2 [[ptr 0 2 0 0, slc false 1 1 0 k none]], trows 5 true 1 bs] (tuple []) [rows false 2 [[ptr 0 2 0 0, slc false 2 1 0 (k + List.length (nRows (toInt (List.getD u0 j any)))) none]], dead, trows 5 true 1 (bs ++ nRows (toInt (List.getD u0 j any)))]) :: (tr 1 ++ ((decide (j + 1 ≤ 20) = true) :: ((areKinds [Kind.int IntKind.i64] [List.getD u0 j any] = true) :: ((asType Try.prog 20 [List.getD (List.getD (flC 3) (Int.toNat i) []) 0 any] = iface 100 (ptr 3 20 0 j)) :: ((decide (Int.toNat i < 20) = true) :: (tr 1 ++ ((decide (0 ≤ i ∧ i < (↑20 : Int)) = true) :: ((decide (i < 20) = true) :: [])))))))))) followed (by kernel_rfl) (allP_of ⟨⟨(@Go.L12.num_ok (toInt (List.getD u0 j any)) (bs) (k) h1 h2 h3), rfl, rfl, rfl⟩, (trC 1 ⟨h4, ⟨h5, ⟨h6, ⟨h7, (trC 1 ⟨h8, ⟨h9, trivial⟩⟩)⟩⟩⟩⟩)⟩) (keepM 148 [0, 15, 16, 17]) ([0, 1, 2, 3, 5]) (by kernel_rfl) (by kernel_rfl) (by kernel_rfl)

theorem pCI0_2 (u0 : List AVal) (i : Int) (j k : Nat) (bs : List (List AVal))
    (h1 : nOk (toInt (List.getD u0 j any)) = false)
    (h2 : toInt (List.getD u0 j any) < 9223372036854775808)
    (h3 : decide (j + 1 ≤ 20) = true)
    (h4 : areKinds [Kind.int IntKind.i64] [List.getD u0 j any] = true)
    (h5 : asType Try.prog 20 [List.getD (List.getD (flC 3) (Int.toNat i) []) 0 any] = iface 100 (ptr 3 20 0 j))
    (h6 : decide (Int.toNat i < 20) = true)
    (h7 : decide (0 ≤ i ∧ i < (↑20 : Int)) = true)
    (h8 : decide (i < 20) = true) :
    TripN Try.prog 4 (loopNo Try.f64 0) (rgpC i) (hppC u0 k bs) (AExit.pan 117) (mkR 148 [(0, ptr 0 2 0 0), (15, slc false 1 1 0 20 none), (16, iI 20), (17, iI i)]) ([dead, rows false 1 (flC 3), dead, rows true 20 [u0]]) :=
  evalT (st := St.mk (rgpC i) (hppC u0 k bs) ([Dec.br true, Dec.rwl (iface 100 (ptr 3 20 0 j)), Dec.use [0, 4] [ptr 0 2 0 0, iI (toInt (List.getD u0 j any))] [rows false 2 [[ptr 0 2 0 0, slc false 1 1 0 k none]], trows 5 true 1 bs] (pan 117) [dead, dead]]) []) (st' := St.mk (mkR 148 [(0, ptr 0 2 0 0), (5, iface 100 (ptr 3 20 0 j)), (6, ptr 3 20 0 j), (15, slc false 1 1 0 20 none), (16, iI 20), (17, iI i), (18, tt true), (19, ptr 1 1 (Int.toNat i) 0), (20, iface 100 (ptr 3 20 0 j)), (21, iface 100 (ptr 3 20 0 j)), (22, tuple [ptr 3 20 0 j, tt true]), (23, tt true), (24, ptr 3 20 0 j), (25, ptr 0 2 0 0), (26, ptr 3 20 0 j), (27, ptr 3 20 0 j), (28, iI (toInt (List.getD u0 j any)))]) ([dead, rows false 1 (flC 3), dead, rows true 20 [u0], dead]) ([]) ((oU 4 68 [0, 4] [ptr 0 2 0 0, iI (toInt (List.getD u0 j any))] [rows false 2 [[ptr 0 2 0 0, slc false 4 1 0 k none]], rows false 1 (flC 3), dead, rows true 20 [u0], trows 5 true 1 bs] [ptr 0 2 0 0, iI (toInt (List.getD u0 j any))] [rows false 2 [[ptr 0 2 0 0, slc false 1 1 0 k none]], trows 5 true 1 bs] (pan 117) [dead, dead]) :: (tr 1 ++ ((decide (j + 1 ≤ 20) = true) :: ((areKinds [Kind.int IntKind.i64] [List.getD u0 j any] = true) :: ((asType Try.prog 20 [List.getD (List.getD (flC 3) (Int.toNat i) []) 0 any] = iface 100 (ptr 3 20 0 j)) :: ((decide (Int.toNat i < 20) = true) :: (tr 1 ++ ((decide (0 ≤ i ∧ i < (↑20 : Int)) = true) :: ((decide (i < 20) = true) :: [])))))))))) followed (by kernel_rfl) (allP_of ⟨⟨(@Go.L12.num_no (toInt (List.getD u0 j any)) (bs) (k) h1 h2), rfl, rfl, rfl⟩, (trC 1 ⟨h3, ⟨h4, ⟨h5, ⟨h6, (trC 1 ⟨h7, ⟨h8, trivial⟩⟩)⟩⟩⟩⟩)⟩) (keepM 148 [0, 15, 16, 17]) ([0, 1, 2, 3]) (by kernel_rfl) (by kernel_rfl) (by kernel_rfl)

def pCI0_T (u0 : List AVal) (i : Int) (j k : Nat) (bs : List (List AVal)) (Q : AExit → Regs → AState → Prop) : Prop := (decide (i < 20) = true) ∧ (decide (0 ≤ i ∧ i < (↑20 : Int)) = true) ∧ (decide (Int.toNat i < 20) = true) ∧ (asType Try.prog 20 [List.getD (List.getD (flC 3) (Int.toNat i) []) 0 any] = iface 100 (ptr 3 20 0 j)) ∧ (areKinds [Kind.int IntKind.i64] [List.getD u0 j any] = true) ∧ (decide (j + 1 ≤ 20) = true) ∧ ((((nOk (toInt (List.getD u0 j any)) = true) ∧ (k = List.length bs) ∧ (List.length bs ≤ 70368744177664)) → Q (AExit.normal) (mkR 148 [(0, ptr 0 2 0 0), (15, slc false 1 1 0 20 none), (16, iI 20), (17, iI (IntKind.wrap IntKind.i64 (i + 1)))]) ([rows false 2 [[ptr 0 2 0 0, slc false 4 1 0 (k + List.length (nRows (toInt (List.getD u0 j any)))) none]], rows false 1 (flC 3), dead, rows true 20 [u0], trows 5 true 1 (bs ++ nRows (toInt (List.getD u0 j any)))])) ∧ (((nOk (toInt (List.getD u0 j any)) = false) ∧ (toInt (List.getD u0 j any) < 9223372036854775808)) → Q (AExit.pan 117) (mkR 148 [(0, ptr 0 2 0 0), (15, slc false 1 1 0 20 none), (16, iI 20), (17, iI i)]) ([dead, rows false 1 (flC 3), dead, rows true 20 [u0]])) ∧ (((nOk (toInt (List.getD u0 j any)) = true) ∧ (k = List.length bs) ∧ (List.length bs ≤ 70368744177664)) ∨ ((nOk (toInt (List.getD u0 j any)) = false) ∧ (toInt (List.getD u0 j any) < 9223372036854775808))))
theorem pCI0_wp (u0 : List AVal) (i : Int) (j k : Nat) (bs : List (List AVal)) {Q : AExit → Regs → AState → Prop} (h : pCI0_T u0 i j k bs Q) : ∃ e rg' σ', TripN Try.prog 4 (loopNo Try.f64 0) (rgpC i) (hppC u0 k bs) e rg' σ' ∧ Q e rg' σ' :=
  Or.elim h.2.2.2.2.2.2.2.2 (fun (c0 : (nOk (toInt (List.getD u0 j any)) = true) ∧ (k = List.length bs) ∧ (List.length bs ≤ 70368744177664)) => ⟨_, _, _, pCI0_1 u0 i j k bs (c0.1) (c0.2.1) (c0.2.2) (h.2.2.2.2.2.1) (h.2.2.2.2.1) (h.2.2.2.1) (h.2.2.1) (h.2.1) (h.1), (h.2.2.2.2.2.2.1 c0)⟩) (fun (c1 : (nOk (toInt (List.getD u0 j any)) = false) ∧ (toInt (List.getD u0 j any) < 9223372036854775808)) => ⟨_, _, _, pCI0_2 u0 i j k bs (c1.1) (c1.2) (h.2.2.2.2.2.1) (h.2.2.2.2.1) (h.2.2.2.1) (h.2.2.1) (h.2.1) (h.1), (h.2.2.2.2.2.2.2.1 c1)⟩)


theorem pCB0_1 (u0 : List AVal) (i : Int) (j k : Nat) (bs : List (List AVal))
    (h1 : FOk Try.prog 68 [ptr 0 2 0 0, iI 1] [rows false 2 [[ptr 0 2 0 0, slc false 1 1 0 k none]], trows 5 true 1 bs] (tuple []) [rows false 2 [[ptr 0 2 0 0, slc false 2 1 0 (k + 1) none]], dead, trows 5 true 1 (bs ++ [[int IntKind.u8 1]])])
    (h2 : toBool (List.getD u0 j any) = true)
    (h3 : decide (j + 1 ≤ 20) = true)
    (h4 : areKinds [Kind.bool] [List.getD u0 j any] = true)
    (h5 : asType Try.prog 20 [List.getD (List.getD (flC 3) (Int.toNat i) []) 0 any] = iface 101 (ptr 3 20 0 j))
    (h6 : decide (Int.toNat i < 20) = true)
    (h7 : decide (0 ≤ i ∧ i < (↑20 : Int)) = true)
    (h8 : decide (i < 20) = true) :
    TripN Try.prog 4 (loopNo Try.f64 0) (rgpC i) (hppC u0 k bs) (AExit.normal) (mkR 148 [(0, ptr 0 2 0 0), (15, slc false 1 1 0 20 none), (16, iI 20), (17, iI (IntKind.wrap IntKind.i64 (i + 1)))]) ([rows false 2 [[ptr 0 2 0 0, slc false 4 1 0 (k + 1) none]], rows false 1 (flC 3), dead, rows true 20 [u0], trows 5 true 1 (bs ++ [[int IntKind.u8 1]])]) :=
  evalT (st := St.mk (rgpC i) (hppC u0 k bs) ([Dec.br true, Dec.rwl (iface 101 (ptr 3 20 0 j)), Dec.br true, Dec.use [0, 4] [ptr 0 2 0 0, iI 1] [rows false 2 [[ptr 0 2 0 0, slc false 1 1 0 k none]], trows 5 true 1 bs] (tuple []) [rows false 2 [[ptr 0 2 0 0, slc false 2 1 0 (k + 1) none]], dead, trows 5 true 1 (bs ++ [[int IntKind.u8 1]])]]) []) (st' := St.mk (mkR 148 [(0, ptr 0 2 0 0), (5, iface 101 (ptr 3 20 0 j)), (8, ptr 3 20 0 j), (9, iI 1), (15, slc false 1 1 0 20 none), (16, iI 20), (17, iI (IntKind.wrap IntKind.i64 (i + 1))), (18, tt true), (19, ptr 1 1 (Int.toNat i) 0), (20, iface 101 (ptr 3 20 0 j)), (21, iface 101 (ptr 3 20 0 j)), (22, tuple [nilp, tt false]), (23, tt false), (24, nilp), (30, tuple [nilp, tt false]), (31, tt false), (32, nilp), (38, tuple [ptr 3 20 0 j, tt true]), (39, tt true), (40, ptr 3 20 0 j), (41, ptr 3 20 0 j), (42, ptr 3 20 0 j), (43, tt true), (44, ptr 0 2 0 0), (45, iI 1), (46, tuple []), (147, iI (IntKind.wrap IntKind.i64 (i + 1)))]) ([rows false 2 [[ptr 0 2 0 0, slc false 5 1 0 (k + 1) none]], rows false 1 (flC 3), dead, rows true 20 [u0], dead, trows 5 true 1 (bs ++ [[int IntKind.u8 1]])]) ([]) ((oU 4 68 [0, 4] [ptr 0 2 0 0, iI 1] [rows false 2 [[ptr 0 2 0 0, slc false 4 1 0 k none]], rows false 1 (flC 3), dead, rows true 20 [u0], trows 5 true 1 bs] [ptr 0 2 0 0, iI 1] [rows false 2 [[ptr 0 2 0 0, slc false 1 1 0 k none]], trows 5 true 1 bs] (tuple []) [rows false 2 [[ptr 0 2 0 0, slc false 2 1 0 (k + 1) none]], dead, trows 5 true 1 (bs ++ [[int IntKind.u8 1]])]) :: ((toBool (List.getD u0 j any) = true) :: (tr 1 ++ ((decide (j + 1 ≤ 20) = true) :: ((areKinds [Kind.bool] [List.getD u0 j any] = true) :: ((asType Try.prog 20 [List.getD (List.getD (flC 3) (Int.toNat i) []) 0 any] = iface 101 (ptr 3 20 0 j)) :: ((decide (Int.toNat i < 20) = true) :: (tr 1 ++ ((decide (0 ≤ i ∧ i < (↑20 : Int)) = true) :: ((decide (i < 20) = true) :: []))))))))))) followed (by kernel_rfl) (allP_of ⟨⟨h1, rfl, rfl, rfl⟩, ⟨h2, (trC 1 ⟨h3, ⟨h4, ⟨h5, ⟨h6, (trC 1 ⟨h7, ⟨h8, trivial⟩⟩)⟩⟩⟩⟩)⟩⟩) (keepM 148 [0, 15, 16, 17]) ([0, 1, 2, 3, 5]) (by kernel_rfl) (by kernel_rfl) (by kernel_rfl)

theorem pCB0_3 (u0 : List AVal) (i : Int) (j k : Nat) (bs : List (List AVal))
    (h1 : FOk Try.prog 68 [ptr 0 2 0 0, iI 0] [rows false 2 [[ptr 0 2 0 0, slc false 1 1 0 k none]], trows 5 true 1 bs] (tuple []) [rows false 2 [[ptr 0 2 0 0, slc false 2 1 0 (k + 1) none]], dead, trows 5 true 1 (bs ++ [[int IntKind.u8 0]])])
    (h2 : toBool (List.getD u0 j any) = false)
    (h3 : decide (j + 1 ≤ 20) = true)
    (h4 : areKinds [Kind.bool] [List.getD u0 j any] = true)
    (h5 : asType Try.prog 20 [List.getD (List.getD (flC 3) (Int.toNat i) []) 0 any] = iface 101 (ptr 3 20 0 j))
    (h6 : decide (Int.toNat i < 20) = true)
    (h7 : decide (0 ≤ i ∧ i < (↑20 : Int)) = true)
    (h8 : decide (i < 20) = true) :
    TripN Try.prog 4 (loopNo Try.f64 0) (rgpC i) (hppC u0 k bs) (AExit.normal) (mkR 148 [(0, ptr 0 2 0 0), (15, slc false 1 1 0 20 none), (16, iI 20), (17, iI (IntKind.wrap IntKind.i64 (i + 1)))]) ([rows false 2 [[ptr 0 2 0 0, slc false 4 1 0 (k + 1) none]], rows false 1 (flC 3), dead, rows true 20 [u0], trows 5 true 1 (bs ++ [[int IntKind.u8 0]])]) :=
  evalT (st := St.mk (rgpC i) (hppC u0 k bs) ([Dec.br true, Dec.rwl (iface 101 (ptr 3 20 0 j)), Dec.br false, Dec.use [0, 4] [ptr 0 2 0 0, iI 0] [rows false 2 [[ptr 0 2 0 0, slc false 1 1 0 k none]], trows 5 true 1 bs] (tuple []) [rows false 2 [[ptr 0 2 0 0, slc false 2 1 0 (k + 1) none]], dead, trows 5 true 1 (bs ++ [[int IntKind.u8 0]])]]) []) (st' := St.mk (mkR 148 [(0, ptr 0 2 0 0), (5, iface 101 (ptr 3 20 0 j)), (8, ptr 3 20 0 j), (9, iI 0), (15, slc false 1 1 0 20 none), (16, iI 20), (17, iI (IntKind.wrap IntKind.i64 (i + 1))), (18, tt true), (19, ptr 1 1 (Int.toNat i) 0), (20, iface 101 (ptr 3 20 0 j)), (21, iface 101 (ptr 3 20 0 j)), (22, tuple [nilp, tt false]), (23, tt false), (24, nilp), (30, tuple [nilp, tt false]), (31, tt false), (32, nilp), (38, tuple [ptr 3 20 0 j, tt true]), (39, tt true), (40, ptr 3 20 0 j), (41, ptr 3 20 0 j), (42, ptr 3 20 0 j), (43, tt false), (44, ptr 0 2 0 0), (45, iI 0), (46, tuple []), (147, iI (IntKind.wrap IntKind.i64 (i + 1)))]) ([rows false 2 [[ptr 0 2 0 0, slc false 5 1 0 (k + 1) none]], rows false 1 (flC 3), dead, rows true 20 [u0], dead, trows 5 true 1 (bs ++ [[int IntKind.u8 0]])]) ([]) ((oU 4 68 [0, 4] [ptr 0 2 0 0, iI 0] [rows false 2 [[ptr 0 2 0 0, slc false 4 1 0 k none]], rows false 1 (flC 3), dead, rows true 20 [u0], trows 5 true 1 bs] [ptr 0 2 0 0, iI 0] [rows false 2 [[ptr 0 2 0 0, slc false 1 1 0 k none]], trows 5 true 1 bs] (tuple []) [rows false 2 [[ptr 0 2 0 0, slc false 2 1 0 (k + 1) none]], dead, trows 5 true 1 (bs ++ [[int IntKind.u8 0]])]) :: ((toBool (List.getD u0 j any) = false) :: (tr 1 ++ ((decide (j + 1 ≤ 20) = true) :: ((areKinds [Kind.bool] [List.getD u0 j any] = true) :: ((asType Try.prog 20 [List.getD (List.getD (flC 3) (Int.toNat i) []) 0 any] = iface 101 (ptr 3 20 0 j)) :: ((decide (Int.toNat i < 20) = true) :: (tr 1 ++ ((decide (0 ≤ i ∧ i < (↑20 : Int)) = true) :: ((decide (i < 20) = true) :: []))))))))))) followed (by kernel_rfl) (allP_of ⟨⟨h1, rfl, rfl, rfl⟩, ⟨h2, (trC 1 ⟨h3, ⟨h4, ⟨h5, ⟨h6, (trC 1 ⟨h7, ⟨h8, trivial⟩⟩)⟩⟩⟩⟩)⟩⟩) (keepM 148 [0, 15, 16, 17]) ([0, 1, 2, 3, 5]) (by kernel_rfl) (by kernel_rfl) (by kernel_rfl)

def pCB0_T (u0 : List AVal) (i : Int) (j k : Nat) (bs : List (List AVal)) (Q : AExit → Regs → AState → Prop) : Prop := (decide (i < 20) = true) ∧ (decide (0 ≤ i ∧ i < (↑20 : Int)) = true) ∧ (decide (Int.toNat i < 20) = true) ∧ (asType Try.prog 20 [List.getD (List.getD (flC 3) (Int.toNat i) []) 0 any] = iface 101 (ptr 3 20 0 j)) ∧ (areKinds [Kind.bool] [List.getD u0 j any] = true) ∧ (decide (j + 1 ≤ 20) = true) ∧ ((toBool (List.getD u0 j any) = true) → (FOk Try.prog 68 [ptr 0 2 0 0, iI 1] [rows false 2 [[ptr 0 2 0 0, slc false 1 1 0 k none]], trows 5 true 1 bs] (tuple []) [rows false 2 [[ptr 0 2 0 0, slc false 2 1 0 (k + 1) none]], dead, trows 5 true 1 (bs ++ [[int IntKind.u8 1]])]) ∧ Q (AExit.normal) (mkR 148 [(0, ptr 0 2 0 0), (15, slc false 1 1 0 20 none), (16, iI 20), (17, iI (IntKind.wrap IntKind.i64 (i + 1)))]) ([rows false 2 [[ptr 0 2 0 0, slc false 4 1 0 (k + 1) none]], rows false 1 (flC 3), dead, rows true 20 [u0], trows 5 true 1 (bs ++ [[int IntKind.u8 1]])])) ∧ ((toBool (List.getD u0 j any) = false) → (FOk Try.prog 68 [ptr 0 2 0 0, iI 0] [rows false 2 [[ptr 0 2 0 0, slc false 1 1 0 k none]], trows 5 true 1 bs] (tuple []) [rows false 2 [[ptr 0 2 0 0, slc false 2 1 0 (k + 1) none]], dead, trows 5 true 1 (bs ++ [[int IntKind.u8 0]])]) ∧ Q (AExit.normal) (mkR 148 [(0, ptr 0 2 0 0), (15, slc false 1 1 0 20 none), (16, iI 20), (17, iI (IntKind.wrap IntKind.i64 (i + 1)))]) ([rows false 2 [[ptr 0 2 0 0, slc false 4 1 0 (k + 1) none]], rows false 1 (flC 3), dead, rows true 20 [u0], trows 5 true 1 (bs ++ [[int IntKind.u8 0]])]))
theorem pCB0_wp (u0 : List AVal) (i : Int) (j k : Nat) (bs : List (List AVal)) {Q : AExit → Regs → AState → Prop} (h : pCB0_T u0 i j k bs Q) : ∃ e rg' σ', TripN Try.prog 4 (loopNo Try.f64 0) (rgpC i) (hppC u0 k bs) e rg' σ' ∧ Q e rg' σ' :=
  brE (fun (c0 : toBool (List.getD u0 j any) = true) => ⟨_, _, _, pCB0_1 u0 i j k bs ((h.2.2.2.2.2.2.1 c0).1) (c0) (h.2.2.2.2.2.1) (h.2.2.2.2.1) (h.2.2.2.1) (h.2.2.1) (h.2.1) (h.1), (h.2.2.2.2.2.2.1 c0).2⟩) (fun (c0 : toBool (List.getD u0 j any) = false) => ⟨_, _, _, pCB0_3 u0 i j k bs ((h.2.2.2.2.2.2.2 c0).1) (c0) (h.2.2.2.2.2.1) (h.2.2.2.2.1) (h.2.2.2.1) (h.2.2.1) (h.2.1) (h.1), (h.2.2.2.2.2.2.2 c0).2⟩)


theorem pCE0_1 (u0 : List AVal) (i : Int) (j k : Nat) (bs : List (List AVal))
    (h1 : nOk (toInt (List.getD u0 j any)) = true)
    (h2 : k = List.length bs)
    (h3 : List.length bs ≤ 70368744177664)
    (h4 : decide (j + 1 ≤ 20) = true)
    (h5 : areKinds [Kind.int IntKind.i64] [List.getD u0 j any] = true)
    (h6 : asType Try.prog 20 [List.getD (List.getD (flC 3) (Int.toNat i) []) 0 any] = iface 102 (ptr 3 20 0 j))
    (h7 : decide (Int.toNat i < 20) = true)
    (h8 : decide (0 ≤ i ∧ i < (↑20 : Int)) = true)
    (h9 : decide (i < 20) = true) :
    TripN Try.prog 4 (loopNo Try.f64 0) (rgpC i) (hppC u0 k bs) (AExit.normal) (mkR 148 [(0, ptr 0 2 0 0), (15, slc false 1 1 0 20 none), (16, iI 20), (17, iI (IntKind.wrap IntKind.i64 (i + 1)))]) ([rows false 2 [[ptr 0 2 0 0, slc false 4 1 0 (k + List.length (nRows (toInt (List.getD u0 j any)))) none]], rows false 1 (flC 3), dead, rows true 20 [u0], trows 5 true 1 (bs ++ nRows (toInt (List.getD u0 j any)))]) :=
  evalT (st := St.mk (rgpC i) (hppC u0 k bs) ([Dec.br true, Dec.rwl (iface 102 (ptr 3 20 0 j)), Dec.use [0, 4] [ptr 0 2 0 0, iI (toInt (List.getD u0 j any))] [rows false 2 [[ptr 0 2 0 0, slc false 1 1 0 k none]], trows 5 true 1 bs] (tuple []) [rows false 2 [[ptr 0 2 0 0, slc false 2 1 0 (k + List.length (nRows (toInt (List.getD u0 j any)))) none]], dead, trows 5 true 1 (bs ++ nRows (toInt (List.getD u0 j any)))]]) []) (st' := St.mk (mkR 148 [(0, ptr 0 2 0 0), (5, iface 102 (ptr 3 20 0 j)), (7, ptr 3 20 0 j), (15, slc false 1 1 0 20 none), (16, iI 20), (17, iI (IntKind.wrap IntKind.i64 (i + 1))), (18, tt true), (19, ptr 1 1 (Int.toNat i) 0), (20, iface 102 (ptr 3 20 0 j)), (21, iface 102 (ptr 3 20 0 j)), (22, tuple [nilp, tt false]), (23, tt false), (24, nilp), (30, tuple [ptr 3 20 0 j, tt true]), (31, tt true), (32, ptr 3 20 0 j), (33, ptr 0 2 0 0), (34, ptr 3 20 0 j), (35, ptr 3 20 0 j), (36, iI (toInt (List.getD u0 j any))), (37, tuple []), (147, iI (IntKind.wrap IntKind.i64 (i + 1)))]) ([rows false 2 [[ptr 0 2 0 0, slc false 5 1 0 (k + List.length (nRows (toInt (List.getD u0 j any)))) none]], rows false 1 (flC 3), dead, rows true 20 [u0], dead, trows 5 true 1 (bs ++ nRows (toInt (List.getD u0 j any)))]) ([]) ((oU 4 68 [0, 4] [ptr 0 2 0 0, iI (toInt (List.getD u0 j any))] [rows false 2 [[ptr 0 2 0 0, slc false 4 1 0 k none]], rows false 1 (flC 3), dead, rows true 20 [u0], trows 5 true 1 bs] [ptr 0 2 0 0, iI (toInt (List.getD u0 j any))] [rows false 2 [[ptr 0 2 0 0, slc false 1 1 0 k none]], trows 5 true 1 bs] (tuple []) [rows false 2 [[ptr 0 2 0 0, slc false 2 1 0 (k + List.length (nRows (toInt (List.getD u0 j any)))) none]], dead, trows 5 true 1 (bs ++ nRows (toInt (List.getD u0 j any)))]) :: (tr 1 ++ ((decide (j + 1 ≤ 20) = true) :: ((areKinds [Kind.int IntKind.i64] [List.getD u0 j any] = true) :: ((asType Try.prog 20 [List.getD (List.getD (flC 3) (Int.toNat i) []) 0 any] = iface 102 (ptr 3 20 0 j)) :: ((decide (Int.toNat i < 20) = true) :: (tr 1 ++ ((decide (0 ≤ i ∧ i < (↑20 : Int)) = true) :: ((decide (i < 20) = true) :: [])))))))))) followed (by kernel_rfl) (allP_of ⟨⟨(@Go.L12.num_ok (toInt (List.getD u0 j any)) (bs) (k) h1 h2 h3), rfl, rfl, rfl⟩, (trC 1 ⟨h4, ⟨h5, ⟨h6, ⟨h7, (trC 1 ⟨h8, ⟨h9, trivial⟩⟩)⟩⟩⟩⟩)⟩) (keepM 148 [0, 15, 16, 17]) ([0, 1, 2, 3, 5]) (by kernel_rfl) (by kernel_rfl) (by kernel_rfl)

theorem pCE0_2 (u0 : List AVal) (i : Int) (j k : Nat) (bs : List (List AVal))
    (h1 : nOk (toInt (List.getD u0 j any)) = false)
    (h2 : toInt (List.getD u0 j any) < 9223372036854775808)
    (h3 : decide (j + 1 ≤ 20) = true)
    (h4 : areKinds [Kind.int IntKind.i64] [List.getD u0 j any] = true)
    (h5 : asType Try.prog 20 [List.getD (List.getD (flC 3) (Int.toNat i) []) 0 any] = iface 102 (ptr 3 20 0 j))
    (h6 : decide (Int.toNat i < 20) = true)
    (h7 : decide (0 ≤ i ∧ i < (↑20 : Int)) = true)
    (h8 : decide (i < 20) = true) :
    TripN Try.prog 4 (loopNo Try.f64 0) (rgpC i) (hppC u0 k bs) (AExit.pan 117) (mkR 148 [(0, ptr 0 2 0 0), (15, slc false 1 1 0 20 none), (16, iI 20), (17, iI i)]) ([dead, rows false 1 (flC 3), dead, rows true 20 [u0]]) :=
  evalT (st := St.mk (rgpC i) (hppC u0 k bs) ([Dec.br true, Dec.rwl (iface 102 (ptr 3 20 0 j)), Dec.use [0, 4] [ptr 0 2 0 0, iI (toInt (List.getD u0 j any))] [rows false 2 [[ptr 0 2 0 0, slc false 1 1 0 k none]], trows 5 true 1 bs] (pan 117) [dead, dead]]) []) (st' := St.mk (mkR 148 [(0, ptr 0 2 0 0), (5, iface 102 (ptr 3 20 0 j)), (7, ptr 3 20 0 j), (15, slc false 1 1 0 20 none), (16, iI 20), (17, iI i), (18, tt true), (19, ptr 1 1 (Int.toNat i) 0), (20, iface 102 (ptr 3 20 0 j)), (21, iface 102 (ptr 3 20 0 j)), (22, tuple [nilp, tt false]), (23, tt false), (24, nilp), (30, tuple [ptr 3 20 0 j, tt true]), (31, tt true), (32, ptr 3 20 0 j), (33, ptr 0 2 0 0), (34, ptr 3 20 0 j), (35, ptr 3 20 0 j), (36, iI (toInt (List.getD u0 j any)))]) ([dead, rows false 1 (flC 3), dead, rows true 20 [u0], dead]) ([]) ((oU 4 68 [0, 4] [ptr 0 2 0 0, iI (toInt (List.getD u0 j any))] [rows false 2 [[ptr 0 2 0 0, slc false 4 1 0 k none]], rows false 1 (flC 3), dead, rows true 20 [u0], trows 5 true 1 bs] [ptr 0 2 0 0, iI (toInt (List.getD u0 j any))] [rows false 2 [[ptr 0 2 0 0, slc false 1 1 0 k none]], trows 5 true 1 bs] (pan 117) [dead, dead]) :: (tr 1 ++ ((decide (j + 1 ≤ 20) = true) :: ((areKinds [Kind.int IntKind.i64] [List.getD u0 j any] = true) :: ((asType Try.prog 20 [List.getD (List.getD (flC 3) (Int.toNat i) []) 0 any] = iface 102 (ptr 3 20 0 j)) :: ((decide (Int.toNat i < 20) = true) :: (tr 1 ++ ((decide (0 ≤ i ∧ i < (↑20 : Int)) = true) :: ((decide (i < 20) = true) :: [])))))))))) followed (by kernel_rfl) (allP_of ⟨⟨(@Go.L12.num_no (toInt (List.getD u0 j any)) (bs) (k) h1 h2), rfl, rfl, rfl⟩, (trC 1 ⟨h3, ⟨h4, ⟨h5, ⟨h6, (trC 1 ⟨h7, ⟨h8, trivial⟩⟩)⟩⟩⟩⟩)⟩) (keepM 148 [0, 15, 16, 17]) ([0, 1, 2, 3]) (by kernel_rfl) (by kernel_rfl) (by kernel_rfl)

def pCE0_T (u0 : List AVal) (i : Int) (j k : Nat) (bs : List (List AVal)) (Q : AExit → Regs → AState → Prop) : Prop := (decide (i < 20) = true) ∧ (decide (0 ≤ i ∧ i < (↑20 : Int)) = true) ∧ (decide (Int.toNat i < 20) = true) ∧ (asType Try.prog 20 [List.getD (List.getD (flC 3) (Int.toNat i) []) 0 any] = iface 102 (ptr 3 20 0 j)) ∧ (areKinds [Kind.int IntKind.i64] [List.getD u0 j any] = true) ∧ (decide (j + 1 ≤ 20) = true) ∧ ((((nOk (toInt (List.getD u0 j any)) = true) ∧ (k = List.length bs) ∧ (List.length bs ≤ 70368744177664)) → Q (AExit.normal) (mkR 148 [(0, ptr 0 2 0 0), (15, slc false 1 1 0 20 none), (16, iI 20), (17, iI (IntKind.wrap IntKind.i64 (i + 1)))]) ([rows false 2 [[ptr 0 2 0 0, slc false 4 1 0 (k + List.length (nRows (toInt (List.getD u0 j any)))) none]], rows false 1 (flC 3), dead, rows true 20 [u0], trows 5 true 1 (bs ++ nRows (toInt (List.getD u0 j any)))])) ∧ (((nOk (toInt (List.getD u0 j any)) = false) ∧ (toInt (List.getD u0 j any) < 9223372036854775808)) → Q (AExit.pan 117) (mkR 148 [(0, ptr 0 2 0 0), (15, slc false 1 1 0 20 none), (16, iI 20), (17, iI i)]) ([dead, rows false 1 (flC 3), dead, rows true 20 [u0]])) ∧ (((nOk (toInt (List.getD u0 j any)) = true) ∧ (k = List.length bs) ∧ (List.length bs ≤ 70368744177664)) ∨ ((nOk (toInt (List.getD u0 j any)) = false) ∧ (toInt (List.getD u0 j any) < 9223372036854775808))))
theorem pCE0_wp (u0 : List AVal) (i : Int) (j k : Nat) (bs : List (List AVal)) {Q : AExit → Regs → AState → Prop} (h : pCE0_T u0 i j k bs Q) : ∃ e rg' σ', TripN Try.prog 4 (loopNo Try.f64 0) (rgpC i) (hppC u0 k bs) e rg' σ' ∧ Q e rg' σ' :=
  Or.elim h.2.2.2.2.2.2.2.2 (fun (c0 : (nOk (toInt (List.getD u0 j any)) = true) ∧ (k = List.length bs) ∧ (List.length bs ≤ 70368744177664)) => ⟨_, _, _, pCE0_1 u0 i j k bs (c0.1) (c0.2.1) (c0.2.2) (h.2.2.2.2.2.1) (h.2.2.2.2.1) (h.2.2.2.1) (h.2.2.1) (h.2.1) (h.1), (h.2.2.2.2.2.2.1 c0)⟩) (fun (c1 : (nOk (toInt (List.getD u0 j any)) = false) ∧ (toInt (List.getD u0 j any) < 9223372036854775808)) => ⟨_, _, _, pCE0_2 u0 i j k bs (c1.1) (c1.2) (h.2.2.2.2.2.1) (h.2.2.2.2.1) (h.2.2.2.1) (h.2.2.1) (h.2.1) (h.1), (h.2.2.2.2.2.2.2.1 c1)⟩)


theorem pCS0_1 (u0 : List AVal) (i : Int) (j k : Nat) (bs : List (List AVal))
    (h1 : k + List.length (nRows (↑(ByteArray.size (toStr (List.getD u0 j any))) : Int)) = List.length (bs ++ nRows (↑(ByteArray.size (toStr (List.getD u0 j any))) : Int)))
    (h2 : ByteArray.size (toStr (List.getD u0 j any)) ≤ 262144)
    (h3 : List.length (bs ++ nRows (↑(ByteArray.size (toStr (List.getD u0 j any))) : Int)) ≤ 70368744177664)
    (h4 : decide (j + 1 ≤ 20) = true)
    (h5 : areKinds [Kind.str] [List.getD u0 j any] = true)
    (h6 : nOk (↑(ByteArray.size (toStr (List.getD u0 j any))) : Int) = true)
    (h7 : k = List.length bs)
    (h8 : List.length bs ≤ 70368744177664)
    (h9 : decide ((↑(ByteArray.size (toStr (List.getD u0 j any))) : Int) ≤ 262144) = true)
    (h10 : asType Try.prog 20 [List.getD (List.getD (flC 3) (Int.toNat i) []) 0 any] = iface 104 (ptr 3 20 0 j))
    (h11 : decide (Int.toNat i < 20) = true)
    (h12 : decide (0 ≤ i ∧ i < (↑20 : Int)) = true)
    (h13 : decide (i < 20) = true) :
    TripN Try.prog 4 (loopNo Try.f64 0) (rgpC i) (hppC u0 k bs) (AExit.normal) (mkR 148 [(0, ptr 0 2 0 0), (15, slc false 1 1 0 20 none), (16, iI 20), (17, iI (IntKind.wrap IntKind.i64 (i + 1)))]) ([rows false 2 [[ptr 0 2 0 0, slc false 4 1 0 (k + List.length (nRows (↑(ByteArray.size (toStr (List.getD u0 j any))) : Int)) + List.length (byteRows (toStr (List.getD u0 j any)))) none]], rows false 1 (flC 3), dead, rows true 20 [u0], trows 5 true 1 (bs ++ nRows (↑(ByteArray.size (toStr (List.getD u0 j any))) : Int) ++ byteRows (toStr (List.getD u0 j any)))]) :=
  evalT (st := St.mk (rgpC i) (hppC u0 k bs) ([Dec.br true, Dec.rwl (iface 104 (ptr 3 20 0 j)), Dec.use [] [bool (decide ((↑(ByteArray.size (toStr (List.getD u0 j any))) : Int) ≤ 262144))] [] (tuple []) [], Dec.use [0, 4] [ptr 0 2 0 0, iI (↑(ByteArray.size (toStr (List.getD u0 j any))) : Int)] [rows false 2 [[ptr 0 2 0 0, slc false 1 1 0 k none]], trows 5 true 1 bs] (tuple []) [rows false 2 [[ptr 0 2 0 0, slc false 2 1 0 (k + List.length (nRows (↑(ByteArray.size (toStr (List.getD u0 j any))) : Int))) none]], dead, trows 5 true 1 (bs ++ nRows (↑(ByteArray.size (toStr (List.getD u0 j any))) : Int))], Dec.use [0, 5] [ptr 0 2 0 0, str (toStr (List.getD u0 j any))] [rows false 2 [[ptr 0 2 0 0, slc false 1 1 0 (k + List.length (nRows (↑(ByteArray.size (toStr (List.getD u0 j any))) : Int))) none]], trows 5 true 1 (bs ++ nRows (↑(ByteArray.size (toStr (List.getD u0 j any))) : Int))] (tuple [iI (↑(ByteArray.size (toStr (List.getD u0 j any))) : Int), nili]) [rows false 2 [[ptr 0 2 0 0, slc false 2 1 0 (k + List.length (nRows (↑(ByteArray.size (toStr (List.getD u0 j any))) : Int)) + List.length (byteRows (toStr (List.getD u0 j any)))) none]], dead, trows 5 true 1 (bs ++ nRows (↑(ByteArray.size (toStr (List.getD u0 j any))) : Int) ++ byteRows (toStr (List.getD u0 j any)))]]) []) (st' := St.mk (mkR 148 [(0, ptr 0 2 0 0), (5, iface 104 (ptr 3 20 0 j)), (10, ptr 3 20 0 j), (15, slc false 1 1 0 20 none), (16, iI 20), (17, iI (IntKind.wrap IntKind.i64 (i + 1))), (18, tt true), (19, ptr 1 1 (Int.toNat i) 0), (20, iface 104 (ptr 3 20 0 j)), (21, iface 104 (ptr 3 20 0 j)), (22, tuple [nilp, tt false]), (23, tt false), (24, nilp), (30, tuple [nilp, tt false]), (31, tt false), (32, nilp), (38, tuple [nilp, tt false]), (39, tt false), (40, nilp), (47, tuple [ptr 3 20 0 j, tt true]), (48, tt true), (49, ptr 3 20 0 j), (50, ptr 3 20 0 j), (51, ptr 3 20 0 j), (52, str (toStr (List.getD u0 j any))), (53, iI (↑(ByteArray.size (toStr (List.getD u0 j any))) : Int)), (54, bool (decide ((↑(ByteArray.size (toStr (List.getD u0 j any))) : Int) ≤ 262144))), (55, tuple []), (56, ptr 0 2 0 0), (57, ptr 3 20 0 j), (58, ptr 3 20 0 j), (59, str (toStr (List.getD u0 j any))), (60, iI (↑(ByteArray.size (toStr (List.getD u0 j any))) : Int)), (61, tuple []), (62, ptr 0 2 0 0), (63, ptr 3 20 0 j), (64, ptr 3 20 0 j), (65, str (toStr (List.getD u0 j any))), (66, tuple [iI (↑(ByteArray.size (toStr (List.getD u0 j any))) : Int), nili]), (147, iI (IntKind.wrap IntKind.i64 (i + 1)))]) ([rows false 2 [[ptr 0 2 0 0, slc false 6 1 0 (k + List.length (nRows (↑(ByteArray.size (toStr (List.getD u0 j any))) : Int)) + List.length (byteRows (toStr (List.getD u0 j any)))) none]], rows false 1 (flC 3), dead, rows true 20 [u0], dead, dead, trows 5 true 1 (bs ++ nRows (↑(ByteArray.size (toStr (List.getD u0 j any))) : Int) ++ byteRows (toStr (List.getD u0 j any)))]) ([]) ((oU 4 52 [0, 5] [ptr 0 2 0 0, str (toStr (List.getD u0 j any))] [rows false 2 [[ptr 0 2 0 0, slc false 5 1 0 (k + List.length (nRows (↑(ByteArray.size (toStr (List.getD u0 j any))) : Int))) none]], rows false 1 (flC 3), dead, rows true 20 [u0], dead, trows 5 true 1 (bs ++ nRows (↑(ByteArray.size (toStr (List.getD u0 j any))) : Int))] [ptr 0 2 0 0, str (toStr (List.getD u0 j any))] [rows false 2 [[ptr 0 2 0 0, slc false 1 1 0 (k + List.length (nRows (↑(ByteArray.size (toStr (List.getD u0 j any))) : Int))) none]], trows 5 true 1 (bs ++ nRows (↑(ByteArray.size (toStr (List.getD u0 j any))) : Int))] (tuple [iI (↑(ByteArray.size (toStr (List.getD u0 j any))) : Int), nili]) [rows false 2 [[ptr 0 2 0 0, slc false 2 1 0 (k + List.length (nRows (↑(ByteArray.size (toStr (List.getD u0 j any))) : Int)) + List.length (byteRows (toStr (List.getD u0 j any)))) none]], dead, trows 5 true 1 (bs ++ nRows (↑(ByteArray.size (toStr (List.getD u0 j any))) : Int) ++ byteRows (toStr (List.getD u0 j any)))]) :: (tr 1 ++ ((decide (j + 1 ≤ 20) = true) :: ((areKinds [Kind.str] [List.getD u0 j any] = true) :: ((oU 4 68 [0, 4] [ptr 0 2 0 0, iI (↑(ByteArray.size (toStr (List.getD u0 j any))) : Int)] [rows false 2 [[ptr 0 2 0 0, slc false 4 1 0 k none]], rows false 1 (flC 3), dead, rows true 20 [u0], trows 5 true 1 bs] [ptr 0 2 0 0, iI (↑(ByteArray.size (toStr (List.getD u0 j any))) : Int)] [rows false 2 [[ptr 0 2 0 0, slc false 1 1 0 k none]], trows 5 true 1 bs] (tuple []) [rows false 2 [[ptr 0 2 0 0, slc false 2 1 0 (k + List.length (nRows (↑(ByteArray.size (toStr (List.getD u0 j any))) : Int))) none]], dead, trows 5 true 1 (bs ++ nRows (↑(ByteArray.size (toStr (List.getD u0 j any))) : Int))]) :: (tr 1 ++ ((decide (j + 1 ≤ 20) = true) :: ((areKinds [Kind.str] [List.getD u0 j any] = true) :: ((oU 4 58 [] [bool (decide ((↑(ByteArray.size (toStr (List.getD u0 j any))) : Int) ≤ 262144))] [rows false 2 [[ptr 0 2 0 0, slc false 4 1 0 k none]], rows false 1 (flC 3), dead, rows true 20 [u0], trows 5 true 1 bs] [bool (decide ((↑(ByteArray.size (toStr (List.getD u0 j any))) : Int) ≤ 262144))] [] (tuple []) []) :: (tr 1 ++ ((decide (j + 1 ≤ 20) = true) :: ((areKinds [Kind.str] [List.getD u0 j any] = true) :: ((asType Try.prog 20 [List.getD (List.getD (flC 3) (Int.toNat i) []) 0 any] = iface 104 (ptr 3 20 0 j)) :: ((decide (Int.toNat i < 20) = true) :: (tr 1 ++ ((decide (0 ≤ i ∧ i < (↑20 : Int)) = true) :: ((decide (i < 20) = true) :: [])))))))))))))))))) followed (by kernel_rfl) (allP_of ⟨⟨(@Go.L12.ws_okL (toStr (List.getD u0 j any)) (bs ++ nRows (↑(ByteArray.size (toStr (List.getD u0 j any))) : Int)) (k + List.length (nRows (↑(ByteArray.size (toStr (List.getD u0 j any))) : Int))) h1 h2 h3), rfl, rfl, rfl⟩, (trC 1 ⟨h4, ⟨h5, ⟨⟨(@Go.L12.num_ok ((↑(ByteArray.size (toStr (List.getD u0 j any))) : Int)) (bs) (k) h6 h7 h8), rfl, rfl, rfl⟩, (trC 1 ⟨h4, ⟨h5, ⟨⟨(@Go.L12.right_ok (decide ((↑(ByteArray.size (toStr (List.getD u0 j any))) : Int) ≤ 262144)) h9), rfl, rfl, rfl⟩, (trC 1 ⟨h4, ⟨h5, ⟨h10, ⟨h11, (trC 1 ⟨h12, ⟨h13, trivial⟩⟩)⟩⟩⟩⟩)⟩⟩⟩)⟩⟩⟩)⟩) (keepM 148 [0, 15, 16, 17]) ([0, 1, 2, 3, 6]) (by kernel_rfl) (by kernel_rfl) (by kernel_rfl)

theorem pCS0_2 (u0 : List AVal) (i : Int) (j k : Nat) (bs : List (List AVal))
    (h1 : nOk (↑(ByteArray.size (toStr (List.getD u0 j any))) : Int) = false)
    (h2 : (↑(ByteArray.size (toStr (List.getD u0 j any))) : Int) < 9223372036854775808)
    (h3 : decide (j + 1 ≤ 20) = true)
    (h4 : areKinds [Kind.str] [List.getD u0 j any] = true)
    (h5 : decide ((↑(ByteArray.size (toStr (List.getD u0 j any))) : Int) ≤ 262144) = true)
    (h6 : asType Try.prog 20 [List.getD (List.getD (flC 3) (Int.toNat i) []) 0 any] = iface 104 (ptr 3 20 0 j))
    (h7 : decide (Int.toNat i < 20) = true)
    (h8 : decide (0 ≤ i ∧ i < (↑20 : Int)) = true)
    (h9 : decide (i < 20) = true) :
    TripN Try.prog 4 (loopNo Try.f64 0) (rgpC i) (hppC u0 k bs) (AExit.pan 117) (mkR 148 [(0, ptr 0 2 0 0), (15, slc false 1 1 0 20 none), (16, iI 20), (17, iI i)]) ([dead, rows false 1 (flC 3), dead, rows true 20 [u0]]) :=
  evalT (st := St.mk (rgpC i) (hppC u0 k bs) ([Dec.br true, Dec.rwl (iface 104 (ptr 3 20 0 j)), Dec.use [] [bool (decide ((↑(ByteArray.size (toStr (List.getD u0 j any))) : Int) ≤ 262144))] [] (tuple []) [], Dec.use [0, 4] [ptr 0 2 0 0, iI (↑(ByteArray.size (toStr (List.getD u0 j any))) : Int)] [rows false 2 [[ptr 0 2 0 0, slc false 1 1 0 k none]], trows 5 true 1 bs] (pan 117) [dead, dead]]) []) (st' := St.mk (mkR 148 [(0, ptr 0 2 0 0), (5, iface 104 (ptr 3 20 0 j)), (10, ptr 3 20 0 j), (15, slc false 1 1 0 20 none), (16, iI 20), (17, iI i), (18, tt true), (19, ptr 1 1 (Int.toNat i) 0), (20, iface 104 (ptr 3 20 0 j)), (21, iface 104 (ptr 3 20 0 j)), (22, tuple [nilp, tt false]), (23, tt false), (24, nilp), (30, tuple [nilp, tt false]), (31, tt false), (32, nilp), (38, tuple [nilp, tt false]), (39, tt false), (40, nilp), (47, tuple [ptr 3 20 0 j, tt true]), (48, tt true), (49, ptr 3 20 0 j), (50, ptr 3 20 0 j), (51, ptr 3 20 0 j), (52, str (toStr (List.getD u0 j any))), (53, iI (↑(ByteArray.size (toStr (List.getD u0 j any))) : Int)), (54, bool (decide ((↑(ByteArray.size (toStr (List.getD u0 j any))) : Int) ≤ 262144))), (55, tuple []), (56, ptr 0 2 0 0), (57, ptr 3 20 0 j), (58, ptr 3 20 0 j), (59, str (toStr (List.getD u0 j any))), (60, iI (↑(ByteArray.size (toStr (List.getD u0 j any))) : Int))]) ([dead, rows false 1 (flC 3), dead, rows true 20 [u0], dead]) ([]) ((oU 4 68 [0, 4] [ptr 0 2 0 0, iI (↑(ByteArray.size (toStr (List.getD u0 j any))) : Int)] [rows false 2 [[ptr 0 2 0 0, slc false 4 1 0 k none]], rows false 1 (flC 3), dead, rows true 20 [u0], trows 5 true 1 bs] [ptr 0 2 0 0, iI (↑(ByteArray.size (toStr (List.getD u0 j any))) : Int)] [rows false 2 [[ptr 0 2 0 0, slc false 1 1 0 k none]], trows 5 true 1 bs] (pan 117) [dead, dead]) :: (tr 1 ++ ((decide (j + 1 ≤ 20) = true) :: ((areKinds [Kind.str] [List.getD u0 j any] = true) :: ((oU 4 58 [] [bool (decide ((↑(ByteArray.size (toStr (List.getD u0 j any))) : Int) ≤ 262144))] [rows false 2 [[ptr 0 2 0 0, slc false 4 1 0 k none]], rows false 1 (flC 3), dead, rows true 20 [u0], trows 5 true 1 bs] [bool (decide ((↑(ByteArray.size (toStr (List.getD u0 j any))) : Int) ≤ 262144))] [] (tuple []) []) :: (tr 1 ++ ((decide (j + 1 ≤ 20) = true) :: ((areKinds [Kind.str] [List.getD u0 j any] = true) :: ((asType Try.prog 20 [List.getD (List.getD (flC 3) (Int.toNat i) []) 0 any] = iface 104 (ptr 3 20 0 j)) :: ((decide (Int.toNat i < 20) = true) :: (tr 1 ++ ((decide (0 ≤ i ∧ i < (↑20 : Int)) = true) :: ((decide (i < 20) = true) :: [])))))))))))))) followed (by kernel_rfl) (allP_of ⟨⟨(@Go.L12.num_no ((↑(ByteArray.size (toStr (List.getD u0 j any))) : Int)) (bs) (k) h1 h2), rfl, rfl, rfl⟩, (trC 1 ⟨h3, ⟨h4, ⟨⟨(@Go.L12.right_ok (decide ((↑(ByteArray.size (toStr (List.getD u0 j any))) : Int) ≤ 262144)) h5), rfl, rfl, rfl⟩, (trC 1 ⟨h3, ⟨h4, ⟨h6, ⟨h7, (trC 1 ⟨h8, ⟨h9, trivial⟩⟩)⟩⟩⟩⟩)⟩⟩⟩)⟩) (keepM 148 [0, 15, 16, 17]) ([0, 1, 2, 3]) (by kernel_rfl) (by kernel_rfl) (by kernel_rfl)

theorem pCS0_3 (u0 : List AVal) (i : Int) (j k : Nat) (bs : List (List AVal))
    (h1 : decide ((↑(ByteArray.size (toStr (List.getD u0 j any))) : Int) ≤ 262144) = false)
    (h2 : decide (j + 1 ≤ 20) = true)
    (h3 : areKinds [Kind.str] [List.getD u0 j any] = true)
    (h4 : asType Try.prog 20 [List.getD (List.getD (flC 3) (Int.toNat i) []) 0 any] = iface 104 (ptr 3 20 0 j))
    (h5 : decide (Int.toNat i < 20) = true)
    (h6 : decide (0 ≤ i ∧ i < (↑20 : Int)) = true)
    (h7 : decide (i < 20) = true) :
    TripN Try.prog 4 (loopNo Try.f64 0) (rgpC i) (hppC u0 k bs) (AExit.pan 117) (mkR 148 [(0, ptr 0 2 0 0), (15, slc false 1 1 0 20 none), (16, iI 20), (17, iI i)]) ([rows false 2 [[ptr 0 2 0 0, slc false 4 1 0 k none]], rows false 1 (flC 3), dead, rows true 20 [u0], trows 5 true 1 bs]) :=
  evalT (st := St.mk (rgpC i) (hppC u0 k bs) ([Dec.br true, Dec.rwl (iface 104 (ptr 3 20 0 j)), Dec.use [] [bool (decide ((↑(ByteArray.size (toStr (List.getD u0 j any))) : Int) ≤ 262144))] [] (pan 117) []]) []) (st' := St.mk (mkR 148 [(0, ptr 0 2 0 0), (5, iface 104 (ptr 3 20 0 j)), (10, ptr 3 20 0 j), (15, slc false 1 1 0 20 none), (16, iI 20), (17, iI i), (18, tt true), (19, ptr 1 1 (Int.toNat i) 0), (20, iface 104 (ptr 3 20 0 j)), (21, iface 104 (ptr 3 20 0 j)), (22, tuple [nilp, tt false]), (23, tt false), (24, nilp), (30, tuple [nilp, tt false]), (31, tt false), (32, nilp), (38, tuple [nilp, tt false]), (39, tt false), (40, nilp), (47, tuple [ptr 3 20 0 j, tt true]), (48, tt true), (49, ptr 3 20 0 j), (50, ptr 3 20 0 j), (51, ptr 3 20 0 j), (52, str (toStr (List.getD u0 j any))), (53, iI (↑(ByteArray.size (toStr (List.getD u0 j any))) : Int)), (54, bool (decide ((↑(ByteArray.size (toStr (List.getD u0 j any))) : Int) ≤ 262144)))]) ([rows false 2 [[ptr 0 2 0 0, slc false 4 1 0 k none]], rows false 1 (flC 3), dead, rows true 20 [u0], trows 5 true 1 bs]) ([]) ((oU 4 58 [] [bool (decide ((↑(ByteArray.size (toStr (List.getD u0 j any))) : Int) ≤ 262144))] [rows false 2 [[ptr 0 2 0 0, slc false 4 1 0 k none]], rows false 1 (flC 3), dead, rows true 20 [u0], trows 5 true 1 bs] [bool (decide ((↑(ByteArray.size (toStr (List.getD u0 j any))) : Int) ≤ 262144))] [] (pan 117) []) :: (tr 1 ++ ((decide (j + 1 ≤ 20) = true) :: ((areKinds [Kind.str] [List.getD u0 j any] = true) :: ((asType Try.prog 20 [List.getD (List.getD (flC 3) (Int.toNat i) []) 0 any] = iface 104 (ptr 3 20 0 j)) :: ((decide (Int.toNat i < 20) = true) :: (tr 1 ++ ((decide (0 ≤ i ∧ i < (↑20 : Int)) = true) :: ((decide (i < 20) = true) :: [])))))))))) followed (by kernel_rfl) (allP_of ⟨⟨(@Go.L12.right_no (decide ((↑(ByteArray.size (toStr (List.getD u0 j any))) : Int) ≤ 262144)) h1), rfl, rfl, rfl⟩, (trC 1 ⟨h2, ⟨h3, ⟨h4, ⟨h5, (trC 1 ⟨h6, ⟨h7, trivial⟩⟩)⟩⟩⟩⟩)⟩) (keepM 148 [0, 15, 16, 17]) ([0, 1, 2, 3, 4]) (by kernel_rfl) (by kernel_rfl) (by kernel_rfl)

def pCS0_T (u0 : List AVal) (i : Int) (j k : Nat) (bs : List (List AVal)) (Q : AExit → Regs → AState → Prop) : Prop := (decide (i < 20) = true) ∧ (decide (0 ≤ i ∧ i < (↑20 : Int)) = true) ∧ (decide (Int.toNat i < 20) = true) ∧ (asType Try.prog 20 [List.getD (List.getD (flC 3) (Int.toNat i) []) 0 any] = iface 104 (ptr 3 20 0 j)) ∧ (areKinds [Kind.str] [List.getD u0 j any] = true) ∧ (decide (j + 1 ≤ 20) = true) ∧ ((((decide ((↑(ByteArray.size (toStr (List.getD u0 j any))) : Int) ≤ 262144) = true)) → ((((nOk (↑(ByteArray.size (toStr (List.getD u0 j any))) : Int) = true) ∧ (k = List.length bs) ∧ (List.length bs ≤ 70368744177664)) → (k + List.length (nRows (↑(ByteArray.size (toStr (List.getD u0 j any))) : Int)) = List.length (bs ++ nRows (↑(ByteArray.size (toStr (List.getD u0 j any))) : Int))) ∧ (ByteArray.size (toStr (List.getD u0 j any)) ≤ 262144) ∧ (List.length (bs ++ nRows (↑(ByteArray.size (toStr (List.getD u0 j any))) : Int)) ≤ 70368744177664) ∧ Q (AExit.normal) (mkR 148 [(0, ptr 0 2 0 0), (15, slc false 1 1 0 20 none), (16, iI 20), (17, iI (IntKind.wrap IntKind.i64 (i + 1)))]) ([rows false 2 [[ptr 0 2 0 0, slc false 4 1 0 (k + List.length (nRows (↑(ByteArray.size (toStr (List.getD u0 j any))) : Int)) + List.length (byteRows (toStr (List.getD u0 j any)))) none]], rows false 1 (flC 3), dead, rows true 20 [u0], trows 5 true 1 (bs ++ nRows (↑(ByteArray.size (toStr (List.getD u0 j any))) : Int) ++ byteRows (toStr (List.getD u0 j any)))])) ∧ (((nOk (↑(ByteArray.size (toStr (List.getD u0 j any))) : Int) = false) ∧ ((↑(ByteArray.size (toStr (List.getD u0 j any))) : Int) < 9223372036854775808)) → Q (AExit.pan 117) (mkR 148 [(0, ptr 0 2 0 0), (15, slc false 1 1 0 20 none), (16, iI 20), (17, iI i)]) ([dead, rows false 1 (flC 3), dead, rows true 20 [u0]])) ∧ (((nOk (↑(ByteArray.size (toStr (List.getD u0 j any))) : Int) = true) ∧ (k = List.length bs) ∧ (List.length bs ≤ 70368744177664)) ∨ ((nOk (↑(ByteArray.size (toStr (List.getD u0 j any))) : Int) = false) ∧ ((↑(ByteArray.size (toStr (List.getD u0 j any))) : Int) < 9223372036854775808))))) ∧ (((decide ((↑(ByteArray.size (toStr (List.getD u0 j any))) : Int) ≤ 262144) = false)) → Q (AExit.pan 117) (mkR 148 [(0, ptr 0 2 0 0), (15, slc false 1 1 0 20 none), (16, iI 20), (17, iI i)]) ([rows false 2 [[ptr 0 2 0 0, slc false 4 1 0 k none]], rows false 1 (flC 3), dead, rows true 20 [u0], trows 5 true 1 bs])) ∧ (((decide ((↑(ByteArray.size (toStr (List.getD u0 j any))) : Int) ≤ 262144) = true)) ∨ ((decide ((↑(ByteArray.size (toStr (List.getD u0 j any))) : Int) ≤ 262144) = false))))
theorem pCS0_wp (u0 : List AVal) (i : Int) (j k : Nat) (bs : List (List AVal)) {Q : AExit → Regs → AState → Prop} (h : pCS0_T u0 i j k bs Q) : ∃ e rg' σ', TripN Try.prog 4 (loopNo Try.f64 0) (rgpC i) (hppC u0 k bs) e rg' σ' ∧ Q e rg' σ' :=
  Or.elim h.2.2.2.2.2.2.2.2 (fun (c0 : (decide ((↑(ByteArray.size (toStr (List.getD u0 j any))) : Int) ≤ 262144) = true)) => Or.elim (h.2.2.2.2.2.2.1 c0).2.2 (fun (c1 : (nOk (↑(ByteArray.size (toStr (List.getD u0 j any))) : Int) = true) ∧ (k = List.length bs) ∧ (List.length bs ≤ 70368744177664)) => ⟨_, _, _, pCS0_1 u0 i j k bs (((h.2.2.2.2.2.2.1 c0).1 c1).1) (((h.2.2.2.2.2.2.1 c0).1 c1).2.1) (((h.2.2.2.2.2.2.1 c0).1 c1).2.2.1) (h.2.2.2.2.2.1) (h.2.2.2.2.1) (c1.1) (c1.2.1) (c1.2.2) (c0) (h.2.2.2.1) (h.2.2.1) (h.2.1) (h.1), ((h.2.2.2.2.2.2.1 c0).1 c1).2.2.2⟩) (fun (c2 : (nOk (↑(ByteArray.size (toStr (List.getD u0 j any))) : Int) = false) ∧ ((↑(ByteArray.size (toStr (List.getD u0 j any))) : Int) < 9223372036854775808)) => ⟨_, _, _, pCS0_2 u0 i j k bs (c2.1) (c2.2) (h.2.2.2.2.2.1) (h.2.2.2.2.1) (c0) (h.2.2.2.1) (h.2.2.1) (h.2.1) (h.1), ((h.2.2.2.2.2.2.1 c0).2.1 c2)⟩)) (fun (c3 : (decide ((↑(ByteArray.size (toStr (List.getD u0 j any))) : Int) ≤ 262144) = false)) => ⟨_, _, _, pCS0_3 u0 i j k bs (c3) (h.2.2.2.2.2.1) (h.2.2.2.2.1) (h.2.2.2.1) (h.2.2.1) (h.2.1) (h.1), (h.2.2.2.2.2.2.2.1 c3)⟩)


theorem pCX_1 (u0 : List AVal) (i : Int) (k : Nat) (bs : List (List AVal))
    (h1 : decide (i < 20) = false) :
    TripN Try.prog 4 (loopNo Try.f64 0) (rgpC i) (hppC u0 k bs) (AExit.exit 0) (mkR 148 [(0, ptr 0 2 0 0), (15, slc false 1 1 0 20 none), (16, iI 20), (17, iI i)]) ([rows false 2 [[ptr 0 2 0 0, slc false 4 1 0 k none]], rows false 1 (flC 3), dead, rows true 20 [u0], trows 5 true 1 bs]) :=
  evalT (st := St.mk (rgpC i) (hppC u0 k bs) ([Dec.br false]) []) (st' := St.mk (mkR 148 [(0, ptr 0 2 0 0), (15, slc false 1 1 0 20 none), (16, iI 20), (17, iI i), (18, tt false)]) ([rows false 2 [[ptr 0 2 0 0, slc false 4 1 0 k none]], rows false 1 (flC 3), dead, rows true 20 [u0], trows 5 true 1 bs]) ([]) ((decide (i < 20) = false) :: [])) followed (by kernel_rfl) (allP_of ⟨h1, trivial⟩) (keepM 148 [0, 15, 16, 17]) ([0, 1, 2, 3, 4]) (by kernel_rfl) (by kernel_rfl) (by kernel_rfl)

def pCX_T (u0 : List AVal) (i : Int) (k : Nat) (bs : List (List AVal)) (Q : AExit → Regs → AState → Prop) : Prop := (decide (i < 20) = false) ∧ Q (AExit.exit 0) (mkR 148 [(0, ptr 0 2 0 0), (15, slc false 1 1 0 20 none), (16, iI 20), (17, iI i)]) ([rows false 2 [[ptr 0 2 0 0, slc false 4 1 0 k none]], rows false 1 (flC 3), dead, rows true 20 [u0], trows 5 true 1 bs])
theorem pCX_wp (u0 : List AVal) (i : Int) (k : Nat) (bs : List (List AVal)) {Q : AExit → Regs → AState → Prop} (h : pCX_T u0 i k bs Q) : ∃ e rg' σ', TripN Try.prog 4 (loopNo Try.f64 0) (rgpC i) (hppC u0 k bs) e rg' σ' ∧ Q e rg' σ' :=
  ⟨_, _, _, pCX_1 u0 i k bs (h.1), h.2⟩


end Go.L12
end

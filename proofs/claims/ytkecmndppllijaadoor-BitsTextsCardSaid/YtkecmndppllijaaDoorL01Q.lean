import Derived.Test.YtkecmndppllijaaDoorL01P
set_option linter.unusedVariables false
set_option maxRecDepth 100000
namespace Go.L01
open Go Go.Abs Go.Proofs
theorem ptx_1 (t : ByteArray)
    (h1 : (!V t) = true) :
    FOk Tryd.prog 18 ([AVal.str t]) ([]) (AVal.tuple [AVal.str (ByteArray.mk #[]), AVal.int IntKind.i64 11]) ([]) :=
  (evalF_ok followed Tryd.func18 (by kernel_rfl) (show evalF Tryd.prog Tryd.f18 ([AVal.str t]) ([]) ([Dec.use [] [AVal.str t] [] (AVal.bool (V t)) [], Dec.br true]) = .ok (FRes.mk (AVal.tuple [AVal.str (ByteArray.mk #[]), AVal.int IntKind.i64 11]) ([]) (((!V t) = true) :: ((Owed.use (owed Tryd.prog 0) 9 [] [AVal.str t] [] [AVal.str t] [] (AVal.bool (V t)) []) :: []))) by kernel_rfl) (allP_of ⟨h1, ⟨⟨(@Go.L01.vld_ok (t)), rfl, rfl, rfl⟩, trivial⟩⟩)).move ([]) (by kernel_rfl) (by kernel_rfl) (by kernel_rfl)

theorem ptx_2 (t : ByteArray)
    (h1 : decide (ByteArray.size (bS (vbl (Int.toNat (↑(ByteArray.size t) : Int)))) + ByteArray.size t ≤ 9223372036854775807) = true)
    (h2 : 0 ≤ (↑(ByteArray.size t) : Int))
    (h3 : (↑(ByteArray.size t) : Int) < 9223372036854775808)
    (h4 : (!V t) = false) :
    FOk Tryd.prog 18 ([AVal.str t]) ([]) (AVal.tuple [AVal.str (bS (vbl (Int.toNat (↑(ByteArray.size t) : Int))) ++ t), AVal.int IntKind.i64 0]) ([]) :=
  (evalF_ok followed Tryd.func18 (by kernel_rfl) (show evalF Tryd.prog Tryd.f18 ([AVal.str t]) ([]) ([Dec.use [] [AVal.str t] [] (AVal.bool (V t)) [], Dec.br false, Dec.use [] [AVal.int IntKind.i64 (↑(ByteArray.size t) : Int)] [] (AVal.tuple [AVal.str (bS (vbl (Int.toNat (↑(ByteArray.size t) : Int)))), AVal.int IntKind.i64 0]) []]) = .ok (FRes.mk (AVal.tuple [AVal.str (bS (vbl (Int.toNat (↑(ByteArray.size t) : Int))) ++ t), AVal.int IntKind.i64 0]) ([]) ((decide (ByteArray.size (bS (vbl (Int.toNat (↑(ByteArray.size t) : Int)))) + ByteArray.size t ≤ 9223372036854775807) = true) :: ((Owed.use (owed Tryd.prog 0) 12 [] [AVal.int IntKind.i64 (↑(ByteArray.size t) : Int)] [] [AVal.int IntKind.i64 (↑(ByteArray.size t) : Int)] [] (AVal.tuple [AVal.str (bS (vbl (Int.toNat (↑(ByteArray.size t) : Int)))), AVal.int IntKind.i64 0]) []) :: (((!V t) = false) :: ((Owed.use (owed Tryd.prog 0) 9 [] [AVal.str t] [] [AVal.str t] [] (AVal.bool (V t)) []) :: []))))) by kernel_rfl) (allP_of ⟨h1, ⟨⟨(@Go.L01.putv_ok ((↑(ByteArray.size t) : Int)) h2 h3), rfl, rfl, rfl⟩, ⟨h4, ⟨⟨(@Go.L01.vld_ok (t)), rfl, rfl, rfl⟩, trivial⟩⟩⟩⟩)).move ([]) (by kernel_rfl) (by kernel_rfl) (by kernel_rfl)

def ptx_T (t : ByteArray) (Q : AVal → AState → Prop) : Prop := (((!V t) = true) → Q (AVal.tuple [AVal.str (ByteArray.mk #[]), AVal.int IntKind.i64 11]) ([])) ∧ (((!V t) = false) → (0 ≤ (↑(ByteArray.size t) : Int)) ∧ ((↑(ByteArray.size t) : Int) < 9223372036854775808) ∧ (decide (ByteArray.size (bS (vbl (Int.toNat (↑(ByteArray.size t) : Int)))) + ByteArray.size t ≤ 9223372036854775807) = true) ∧ Q (AVal.tuple [AVal.str (bS (vbl (Int.toNat (↑(ByteArray.size t) : Int))) ++ t), AVal.int IntKind.i64 0]) ([]))
theorem ptx_wp (t : ByteArray) {Q : AVal → AState → Prop} (h : ptx_T t Q) : ∃ r σ', FOk Tryd.prog 18 ([AVal.str t]) ([]) r σ' ∧ Q r σ' :=
  brE (fun (c0 : (!V t) = true) => ⟨_, _, ptx_1 t (c0), (h.1 c0)⟩) (fun (c0 : (!V t) = false) => ⟨_, _, ptx_2 t ((h.2 c0).2.2.1) ((h.2 c0).1) ((h.2 c0).2.1) (c0), (h.2 c0).2.2.2⟩)


end Go.L01

import Derived.Test.YtkecmndppllijaaDoorL01Z
set_option linter.unusedVariables false
set_option maxRecDepth 100000
namespace Go.L01
open Go Go.Abs Go.Proofs
theorem fixs_1 (n : Nat) (k : Nat) (t : ByteArray)
    (h1 : (!ByteArray.toList (bS (fxb n k)) == ByteArray.toList (bS (fxb n k))) = true)
    (h2 : 1 ≤ k)
    (h3 : k ≤ 8)
    (h4 : n < 2 ^ 63)
    (h5 : k = 8 ∨ n < 2 ^ (8 * k)) :
    FOk Tryd.prog 6 ([AVal.int IntKind.i64 (↑n : Int), AVal.int IntKind.i64 (↑k : Int), AVal.str t]) ([]) (AVal.bool false) ([]) :=
  (evalF_ok followed Tryd.func6 (by kernel_rfl) (show evalF Tryd.prog Tryd.f6 ([AVal.int IntKind.i64 (↑n : Int), AVal.int IntKind.i64 (↑k : Int), AVal.str t]) ([]) ([Dec.use [] [AVal.int IntKind.i64 (↑n : Int), AVal.int IntKind.i64 (↑k : Int)] [] (AVal.tuple [AVal.str (bS (fxb n k)), AVal.int IntKind.i64 0]) [], Dec.use [] [AVal.int IntKind.i64 (↑n : Int), AVal.int IntKind.i64 (↑k : Int)] [] (AVal.tuple [AVal.str (bS (fxb n k)), AVal.int IntKind.i64 0]) [], Dec.br true]) = .ok (FRes.mk (AVal.bool false) ([]) (((!ByteArray.toList (bS (fxb n k)) == ByteArray.toList (bS (fxb n k))) = true) :: ((Owed.use (owed Tryd.prog 0) 15 [] [AVal.int IntKind.i64 (↑n : Int), AVal.int IntKind.i64 (↑k : Int)] [] [AVal.int IntKind.i64 (↑n : Int), AVal.int IntKind.i64 (↑k : Int)] [] (AVal.tuple [AVal.str (bS (fxb n k)), AVal.int IntKind.i64 0]) []) :: ((Owed.use (owed Tryd.prog 0) 11 [] [AVal.int IntKind.i64 (↑n : Int), AVal.int IntKind.i64 (↑k : Int)] [] [AVal.int IntKind.i64 (↑n : Int), AVal.int IntKind.i64 (↑k : Int)] [] (AVal.tuple [AVal.str (bS (fxb n k)), AVal.int IntKind.i64 0]) []) :: [])))) by kernel_rfl) (allP_of ⟨h1, ⟨⟨(@Go.L01.rpfix_ok (n) (k) h2 h3 h4 h5), rfl, rfl, rfl⟩, ⟨⟨(@Go.L01.pfix_ok (n) (k) h2 h3 h5), rfl, rfl, rfl⟩, trivial⟩⟩⟩)).move ([]) (by kernel_rfl) (by kernel_rfl) (by kernel_rfl)

theorem fixs_2 (n : Nat) (k : Nat) (t : ByteArray)
    (h1 : FOk Tryd.prog 10 [] [] (AVal.bool true) [])
    (h2 : ((↑n : Int) == (↑n : Int)) = true)
    (h3 : 1 ≤ k)
    (h4 : k ≤ 8)
    (h5 : n < 2 ^ 63)
    (h6 : k = 8 ∨ n < 2 ^ (8 * k))
    (h7 : decide (ByteArray.size (bS (fxb n k)) + ByteArray.size t ≤ 9223372036854775807) = true)
    (h8 : (!ByteArray.toList (bS (fxb n k)) == ByteArray.toList (bS (fxb n k))) = false) :
    FOk Tryd.prog 6 ([AVal.int IntKind.i64 (↑n : Int), AVal.int IntKind.i64 (↑k : Int), AVal.str t]) ([]) (AVal.bool true) ([]) :=
  (evalF_ok followed Tryd.func6 (by kernel_rfl) (show evalF Tryd.prog Tryd.f6 ([AVal.int IntKind.i64 (↑n : Int), AVal.int IntKind.i64 (↑k : Int), AVal.str t]) ([]) ([Dec.use [] [AVal.int IntKind.i64 (↑n : Int), AVal.int IntKind.i64 (↑k : Int)] [] (AVal.tuple [AVal.str (bS (fxb n k)), AVal.int IntKind.i64 0]) [], Dec.use [] [AVal.int IntKind.i64 (↑n : Int), AVal.int IntKind.i64 (↑k : Int)] [] (AVal.tuple [AVal.str (bS (fxb n k)), AVal.int IntKind.i64 0]) [], Dec.br false, Dec.br false, Dec.br false, Dec.use [] [AVal.str (bS (fxb n k) ++ t), AVal.int IntKind.i64 (↑k : Int)] [] (AVal.tuple [AVal.int IntKind.i64 (↑n : Int), AVal.int IntKind.i64 0]) [], Dec.br true, Dec.br true, Dec.use [] [] [] (AVal.bool true) []]) = .ok (FRes.mk (AVal.bool true) ([]) ((Owed.use (owed Tryd.prog 0) 10 [] [] [] [] [] (AVal.bool true) []) :: (tr 1 ++ ((((↑n : Int) == (↑n : Int)) = true) :: ((Owed.use (owed Tryd.prog 0) 16 [] [AVal.str (bS (fxb n k) ++ t), AVal.int IntKind.i64 (↑k : Int)] [] [AVal.str (bS (fxb n k) ++ t), AVal.int IntKind.i64 (↑k : Int)] [] (AVal.tuple [AVal.int IntKind.i64 (↑n : Int), AVal.int IntKind.i64 0]) []) :: ((decide (ByteArray.size (bS (fxb n k)) + ByteArray.size t ≤ 9223372036854775807) = true) :: ((false = false) :: ((false = false) :: (((!ByteArray.toList (bS (fxb n k)) == ByteArray.toList (bS (fxb n k))) = false) :: ((Owed.use (owed Tryd.prog 0) 15 [] [AVal.int IntKind.i64 (↑n : Int), AVal.int IntKind.i64 (↑k : Int)] [] [AVal.int IntKind.i64 (↑n : Int), AVal.int IntKind.i64 (↑k : Int)] [] (AVal.tuple [AVal.str (bS (fxb n k)), AVal.int IntKind.i64 0]) []) :: ((Owed.use (owed Tryd.prog 0) 11 [] [AVal.int IntKind.i64 (↑n : Int), AVal.int IntKind.i64 (↑k : Int)] [] [AVal.int IntKind.i64 (↑n : Int), AVal.int IntKind.i64 (↑k : Int)] [] (AVal.tuple [AVal.str (bS (fxb n k)), AVal.int IntKind.i64 0]) []) :: []))))))))))) by kernel_rfl) (allP_of ⟨⟨h1, rfl, rfl, rfl⟩, (trC 1 ⟨h2, ⟨⟨(@Go.L01.fixed_ok (n) (k) (t) h3 h4 h5 h6), rfl, rfl, rfl⟩, ⟨h7, ⟨rfl, ⟨rfl, ⟨h8, ⟨⟨(@Go.L01.rpfix_ok (n) (k) h3 h4 h5 h6), rfl, rfl, rfl⟩, ⟨⟨(@Go.L01.pfix_ok (n) (k) h3 h4 h6), rfl, rfl, rfl⟩, trivial⟩⟩⟩⟩⟩⟩⟩⟩)⟩)).move ([]) (by kernel_rfl) (by kernel_rfl) (by kernel_rfl)

theorem fixs_3 (n : Nat) (k : Nat) (t : ByteArray)
    (h1 : ((↑n : Int) == (↑n : Int)) = false)
    (h2 : 1 ≤ k)
    (h3 : k ≤ 8)
    (h4 : n < 2 ^ 63)
    (h5 : k = 8 ∨ n < 2 ^ (8 * k))
    (h6 : decide (ByteArray.size (bS (fxb n k)) + ByteArray.size t ≤ 9223372036854775807) = true)
    (h7 : (!ByteArray.toList (bS (fxb n k)) == ByteArray.toList (bS (fxb n k))) = false) :
    FOk Tryd.prog 6 ([AVal.int IntKind.i64 (↑n : Int), AVal.int IntKind.i64 (↑k : Int), AVal.str t]) ([]) (AVal.bool false) ([]) :=
  (evalF_ok followed Tryd.func6 (by kernel_rfl) (show evalF Tryd.prog Tryd.f6 ([AVal.int IntKind.i64 (↑n : Int), AVal.int IntKind.i64 (↑k : Int), AVal.str t]) ([]) ([Dec.use [] [AVal.int IntKind.i64 (↑n : Int), AVal.int IntKind.i64 (↑k : Int)] [] (AVal.tuple [AVal.str (bS (fxb n k)), AVal.int IntKind.i64 0]) [], Dec.use [] [AVal.int IntKind.i64 (↑n : Int), AVal.int IntKind.i64 (↑k : Int)] [] (AVal.tuple [AVal.str (bS (fxb n k)), AVal.int IntKind.i64 0]) [], Dec.br false, Dec.br false, Dec.br false, Dec.use [] [AVal.str (bS (fxb n k) ++ t), AVal.int IntKind.i64 (↑k : Int)] [] (AVal.tuple [AVal.int IntKind.i64 (↑n : Int), AVal.int IntKind.i64 0]) [], Dec.br false]) = .ok (FRes.mk (AVal.bool false) ([]) ((((↑n : Int) == (↑n : Int)) = false) :: ((Owed.use (owed Tryd.prog 0) 16 [] [AVal.str (bS (fxb n k) ++ t), AVal.int IntKind.i64 (↑k : Int)] [] [AVal.str (bS (fxb n k) ++ t), AVal.int IntKind.i64 (↑k : Int)] [] (AVal.tuple [AVal.int IntKind.i64 (↑n : Int), AVal.int IntKind.i64 0]) []) :: ((decide (ByteArray.size (bS (fxb n k)) + ByteArray.size t ≤ 9223372036854775807) = true) :: ((false = false) :: ((false = false) :: (((!ByteArray.toList (bS (fxb n k)) == ByteArray.toList (bS (fxb n k))) = false) :: ((Owed.use (owed Tryd.prog 0) 15 [] [AVal.int IntKind.i64 (↑n : Int), AVal.int IntKind.i64 (↑k : Int)] [] [AVal.int IntKind.i64 (↑n : Int), AVal.int IntKind.i64 (↑k : Int)] [] (AVal.tuple [AVal.str (bS (fxb n k)), AVal.int IntKind.i64 0]) []) :: ((Owed.use (owed Tryd.prog 0) 11 [] [AVal.int IntKind.i64 (↑n : Int), AVal.int IntKind.i64 (↑k : Int)] [] [AVal.int IntKind.i64 (↑n : Int), AVal.int IntKind.i64 (↑k : Int)] [] (AVal.tuple [AVal.str (bS (fxb n k)), AVal.int IntKind.i64 0]) []) :: []))))))))) by kernel_rfl) (allP_of ⟨h1, ⟨⟨(@Go.L01.fixed_ok (n) (k) (t) h2 h3 h4 h5), rfl, rfl, rfl⟩, ⟨h6, ⟨rfl, ⟨rfl, ⟨h7, ⟨⟨(@Go.L01.rpfix_ok (n) (k) h2 h3 h4 h5), rfl, rfl, rfl⟩, ⟨⟨(@Go.L01.pfix_ok (n) (k) h2 h3 h5), rfl, rfl, rfl⟩, trivial⟩⟩⟩⟩⟩⟩⟩⟩)).move ([]) (by kernel_rfl) (by kernel_rfl) (by kernel_rfl)

def fixs_T (n : Nat) (k : Nat) (t : ByteArray) (Q : AVal → AState → Prop) : Prop := (1 ≤ k) ∧ (k ≤ 8) ∧ (k = 8 ∨ n < 2 ^ (8 * k)) ∧ (n < 2 ^ 63) ∧ (((!ByteArray.toList (bS (fxb n k)) == ByteArray.toList (bS (fxb n k))) = true) → Q (AVal.bool false) ([])) ∧ (((!ByteArray.toList (bS (fxb n k)) == ByteArray.toList (bS (fxb n k))) = false) → (decide (ByteArray.size (bS (fxb n k)) + ByteArray.size t ≤ 9223372036854775807) = true) ∧ ((((↑n : Int) == (↑n : Int)) = true) → (FOk Tryd.prog 10 [] [] (AVal.bool true) []) ∧ Q (AVal.bool true) ([])) ∧ ((((↑n : Int) == (↑n : Int)) = false) → Q (AVal.bool false) ([])))
theorem fixs_wp (n : Nat) (k : Nat) (t : ByteArray) {Q : AVal → AState → Prop} (h : fixs_T n k t Q) : ∃ r σ', FOk Tryd.prog 6 ([AVal.int IntKind.i64 (↑n : Int), AVal.int IntKind.i64 (↑k : Int), AVal.str t]) ([]) r σ' ∧ Q r σ' :=
  brE (fun (c0 : (!ByteArray.toList (bS (fxb n k)) == ByteArray.toList (bS (fxb n k))) = true) => ⟨_, _, fixs_1 n k t (c0) (h.1) (h.2.1) (h.2.2.2.1) (h.2.2.1), (h.2.2.2.2.1 c0)⟩) (fun (c0 : (!ByteArray.toList (bS (fxb n k)) == ByteArray.toList (bS (fxb n k))) = false) => brE (fun (c1 : ((↑n : Int) == (↑n : Int)) = true) => ⟨_, _, fixs_2 n k t (((h.2.2.2.2.2 c0).2.1 c1).1) (c1) (h.1) (h.2.1) (h.2.2.2.1) (h.2.2.1) ((h.2.2.2.2.2 c0).1) (c0), ((h.2.2.2.2.2 c0).2.1 c1).2⟩) (fun (c1 : ((↑n : Int) == (↑n : Int)) = false) => ⟨_, _, fixs_3 n k t (c1) (h.1) (h.2.1) (h.2.2.2.1) (h.2.2.1) ((h.2.2.2.2.2 c0).1) (c0), ((h.2.2.2.2.2 c0).2.2 c1)⟩))


theorem fixsN_1 (n : Int) (k : Int) (t : ByteArray)
    (h1 : FOk Tryd.prog 10 [] [] (AVal.bool true) [])
    (h2 : ¬fits n k) :
    FOk Tryd.prog 6 ([AVal.int IntKind.i64 n, AVal.int IntKind.i64 k, AVal.str t]) ([]) (AVal.bool true) ([]) :=
  (evalF_ok followed Tryd.func6 (by kernel_rfl) (show evalF Tryd.prog Tryd.f6 ([AVal.int IntKind.i64 n, AVal.int IntKind.i64 k, AVal.str t]) ([]) ([Dec.use [] [AVal.int IntKind.i64 n, AVal.int IntKind.i64 k] [] (AVal.tuple [AVal.str (ByteArray.mk #[]), AVal.int IntKind.i64 1]) [], Dec.use [] [AVal.int IntKind.i64 n, AVal.int IntKind.i64 k] [] (AVal.tuple [AVal.str (ByteArray.mk #[]), AVal.int IntKind.i64 1]) [], Dec.br false, Dec.br false, Dec.br true, Dec.use [] [] [] (AVal.bool true) []]) = .ok (FRes.mk (AVal.bool true) ([]) ((Owed.use (owed Tryd.prog 0) 10 [] [] [] [] [] (AVal.bool true) []) :: (tr 1 ++ ((false = false) :: ((false = false) :: ((Owed.use (owed Tryd.prog 0) 15 [] [AVal.int IntKind.i64 n, AVal.int IntKind.i64 k] [] [AVal.int IntKind.i64 n, AVal.int IntKind.i64 k] [] (AVal.tuple [AVal.str (ByteArray.mk #[]), AVal.int IntKind.i64 1]) []) :: ((Owed.use (owed Tryd.prog 0) 11 [] [AVal.int IntKind.i64 n, AVal.int IntKind.i64 k] [] [AVal.int IntKind.i64 n, AVal.int IntKind.i64 k] [] (AVal.tuple [AVal.str (ByteArray.mk #[]), AVal.int IntKind.i64 1]) []) :: []))))))) by kernel_rfl) (allP_of ⟨⟨h1, rfl, rfl, rfl⟩, (trC 1 ⟨rfl, ⟨rfl, ⟨⟨(@Go.L01.rpfix_no (n) (k) h2), rfl, rfl, rfl⟩, ⟨⟨(@Go.L01.pfix_no (n) (k) h2), rfl, rfl, rfl⟩, trivial⟩⟩⟩⟩)⟩)).move ([]) (by kernel_rfl) (by kernel_rfl) (by kernel_rfl)

def fixsN_T (n : Int) (k : Int) (t : ByteArray) (Q : AVal → AState → Prop) : Prop := (¬fits n k) ∧ (FOk Tryd.prog 10 [] [] (AVal.bool true) []) ∧ Q (AVal.bool true) ([])
theorem fixsN_wp (n : Int) (k : Int) (t : ByteArray) {Q : AVal → AState → Prop} (h : fixsN_T n k t Q) : ∃ r σ', FOk Tryd.prog 6 ([AVal.int IntKind.i64 n, AVal.int IntKind.i64 k, AVal.str t]) ([]) r σ' ∧ Q r σ' :=
  ⟨_, _, fixsN_1 n k t (h.2.1) (h.1), h.2.2⟩


end Go.L01

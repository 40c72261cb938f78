import Derived.Test.YtkecmndppllijaaDoorL01F
import Derived.Test.YtkecmndppllijaaDoorL01O
set_option linter.unusedVariables false
set_option maxRecDepth 100000
namespace Go.L01
open Go Go.Abs Go.Proofs
theorem vld_1 (s : ByteArray) :
    FOk Tryd.prog 9 ([AVal.str s]) ([]) (AVal.bool (V s)) ([]) :=
  (evalF_ok followed Tryd.func9 (by kernel_rfl) (show evalF Tryd.prog Tryd.f9 ([AVal.str s]) ([]) ([Dec.use [] [AVal.str s] [] (AVal.bool (V s)) []]) = .ok (FRes.mk (AVal.bool (V s)) ([]) ((Owed.use (owed Tryd.prog 0) 21 [] [AVal.str s] [] [AVal.str s] [] (AVal.bool (V s)) []) :: [])) by kernel_rfl) (allP_of ⟨⟨(@Go.L01.valid_ok (s)), rfl, rfl, rfl⟩, trivial⟩)).move ([]) (by kernel_rfl) (by kernel_rfl) (by kernel_rfl)

def vld_T (s : ByteArray) (Q : AVal → AState → Prop) : Prop := Q (AVal.bool (V s)) ([])
theorem vld_wp (s : ByteArray) {Q : AVal → AState → Prop} (h : vld_T s Q) : ∃ r σ', FOk Tryd.prog 9 ([AVal.str s]) ([]) r σ' ∧ Q r σ' :=
  ⟨_, _, vld_1 s, h⟩


theorem vld_ok (s : ByteArray) : FOk Tryd.prog 9 [.str s] [] (.bool (V s)) [] := by
  refine FOk.wp (vld_wp s ?_)
  unfold vld_T
  exact ⟨rfl, rfl⟩
end Go.L01

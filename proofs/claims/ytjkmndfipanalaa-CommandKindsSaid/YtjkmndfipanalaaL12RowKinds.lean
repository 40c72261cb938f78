/- The law rookerylaw12.CommandKinds returns true at every input, and what it reads reads behind the call as it read before. No condition. The texts named Abs.. are a symbolic evaluator of the program's code, proved sound; the other texts evaluate the program's functions by it. -/
import Derived.Test.YtjkmndfipanalaaL12g4
import Derived.Test.YtjkmndfipanalaaRows
namespace Go.Proofs.Ytjkmndfipanalaa.commandKinds
open Go.ChangeShapes Go.WideShapes Go.ChangeAt Go.RowKit Go.Abs
set_option linter.unusedVariables false

theorem own : ownKnob Try.prog.godebug = none := by kernel_rfl
set_option maxRecDepth 100000 in
theorem lifted (os : Os) (started : os.Started) (H : Type) (enc : TypeId × Value → H) :
    ReturnsInHanded {} Try.checked os 11 .any (Rows.commandKindsSpec.pre6 enc Try.prog Try.f11 Rows.commandKindsRow.domain false) (Rows.commandKindsSpec.post enc Try.prog Try.f11 false true false false) := by
  refine returnsInHanded_of_change_sized (C := Try.checked) own started (by kernel_rfl) Try.func11
    (ChangeSpec.witness6 (enc := enc) (C := Try.checked) false ⟨#[], #[.string ⟨#[]⟩], []⟩ 8 (by kernel_rfl) (by kernel_rfl) (by kernel_rfl) (by kernel_rfl)) ?_
  intro W base args ds gs before hval hW hcnd hsz _
  exact law_calls (dep := 20) (by kernel_rfl) rfl (fun ds h => by match ds, h with | [_], _ => exact ⟨rfl, rfl, rfl⟩) rfl Try.underlying4 rfl (by kernel_rfl) (by kernel_rfl) (by kernel_rfl) (by kernel_rfl) Go.L12.kinds_row (GOk.none _ _) hval hW hsz
theorem over : Rows.commandKindsRow.holds Try.pinned (OpenSpec.ofChange Rows.commandKindsSpec) :=
  OpenClaim.holds_of_wide 11 Try.f11 rfl rfl rfl rfl rfl rfl rfl ⟨rfl, rfl, rfl, rfl, rfl⟩ rfl rfl rfl rfl rfl (by kernel_rfl) Try.func11 (by kernel_rfl)
    (of_decide_eq_true (by kernel_rfl)) (by unfold Func.isWrapper; first | (rw [if_pos (by decide +kernel)]; kernel_rfl) | (rw [if_neg (by decide +kernel)]; exact ⟨rfl, rfl⟩))
    (fun os started H enc _ => lifted os started H enc)
theorem proved : Rows.CommandKindsSaid := over
#print axioms proved
end Go.Proofs.Ytjkmndfipanalaa.commandKinds
namespace Go.Proofs.Ytjkmndfipanalaa
/-- The row, under a short name, for the claim. -/
theorem commandKinds_holds : Rows.CommandKindsSaid := commandKinds.proved
end Go.Proofs.Ytjkmndfipanalaa

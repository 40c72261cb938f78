/- The law rookerylaw10.SlotsPlays returns true at every input, and what it reads reads behind the call as it read before. No condition. The texts named Abs.. are a symbolic evaluator of the program's code, proved sound; the other texts evaluate the program's functions by it. -/
import Derived.Test.YtchomggcjicokaaL10X
import Derived.Test.YtchomggcjicokaaAbsLaw
import Derived.Test.YtchomggcjicokaaRows
namespace Go.Proofs.Ytchomggcjicokaa.slotsPlays
open Go.ChangeShapes Go.WideShapes Go.ChangeAt Go.RowKit Go.Abs
set_option linter.unusedVariables false

theorem own : ownKnob Try.prog.godebug = none := by kernel_rfl
set_option maxRecDepth 100000 in
theorem lifted (os : Os) (started : os.Started) (H : Type) (enc : TypeId × Value → H) :
    ReturnsInHanded {} Try.checked os 5 .any (Rows.slotsPlaysSpec.pre6 enc Try.prog Try.f5 Rows.slotsPlaysRow.domain false) (Rows.slotsPlaysSpec.post enc Try.prog Try.f5 false true false false) := by
  refine returnsInHanded_of_change_sized (C := Try.checked) own started (by kernel_rfl) Try.func5
    (ChangeSpec.witness6 (enc := enc) (C := Try.checked) false ⟨#[], #[.int .i64 0, .slice none 0 0], []⟩ 8 (by kernel_rfl) (by kernel_rfl) (by kernel_rfl) (by kernel_rfl)) ?_
  intro W base args ds gs before hval hW hcnd hsz _
  exact law_calls (dep := 20) (by kernel_rfl) rfl (fun ds h => by match ds, h with | [_, _], _ => exact ⟨rfl, rfl, rfl⟩) rfl Try.underlying4 rfl (by kernel_rfl) (by kernel_rfl) (by kernel_rfl) (by kernel_rfl) Go.L10.plays_row (GOk.none _ _) hval hW hsz
theorem over : Rows.slotsPlaysRow.holds Try.pinned (OpenSpec.ofChange Rows.slotsPlaysSpec) :=
  OpenClaim.holds_of_wide 5 Try.f5 rfl rfl rfl rfl rfl rfl rfl ⟨rfl, rfl, rfl, rfl, rfl⟩ rfl rfl rfl rfl rfl (by kernel_rfl) Try.func5 (by kernel_rfl)
    (of_decide_eq_true (by kernel_rfl)) (by unfold Func.isWrapper; first | (rw [if_pos (by decide +kernel)]; kernel_rfl) | (rw [if_neg (by decide +kernel)]; exact ⟨rfl, rfl⟩))
    (fun os started H enc _ => lifted os started H enc)
theorem proved : Rows.SlotsPlaysSaid := over
#print axioms proved
end Go.Proofs.Ytchomggcjicokaa.slotsPlays
namespace Go.Proofs.Ytchomggcjicokaa
/-- The row, under a short name, for the claim. -/
theorem slotsPlays_holds : Rows.SlotsPlaysSaid := slotsPlays.proved
end Go.Proofs.Ytchomggcjicokaa

/- The law rookerylaw12.CommandAsks returns true at every input, and what it reads reads behind the call as it read before. No condition. The texts named Abs.. are a symbolic evaluator of the program's code, proved sound; the other texts evaluate the program's functions by it. -/
import Derived.Test.YtjkmndfipanalaaL12g4
import Derived.Test.YtjkmndfipanalaaRows
namespace Go.Proofs.Ytjkmndfipanalaa.commandAsks
open Go.ChangeShapes Go.WideShapes Go.ChangeAt Go.RowKit Go.Abs
set_option linter.unusedVariables false

theorem own : ownKnob Try.prog.godebug = none := by kernel_rfl
set_option maxRecDepth 100000 in
theorem lifted (os : Os) (started : os.Started) (H : Type) (enc : TypeId × Value → H) :
    ReturnsInHanded {} Try.checked os 10 .any (Rows.commandAsksSpec.pre6 enc Try.prog Try.f10 Rows.commandAsksRow.domain false) (Rows.commandAsksSpec.post enc Try.prog Try.f10 false true false false) := by
  refine returnsInHanded_of_change_sized (C := Try.checked) own started (by kernel_rfl) Try.func10
    (ChangeSpec.witness6 (enc := enc) (C := Try.checked) false ⟨#[], #[.agg #[.int .i64 0, .int .i64 0], .agg #[.int .i64 0, .string ⟨#[]⟩, .string ⟨#[]⟩, .string ⟨#[]⟩, .string ⟨#[]⟩, .string ⟨#[]⟩, .string ⟨#[]⟩, .int .i64 0, .int .i64 0], .agg #[.int .i64 0, .int .i64 0, .slice none 0 0]], []⟩ 8 (by kernel_rfl) (by kernel_rfl) (by kernel_rfl) (by kernel_rfl)) ?_
  intro W base args ds gs before hval hW hcnd hsz _
  exact law_calls (dep := 20) (by kernel_rfl) rfl (fun ds h => by match ds, h with | [_, _, _], _ => exact ⟨rfl, rfl, rfl⟩) rfl Try.underlying4 rfl (by kernel_rfl) (by kernel_rfl) (by kernel_rfl) (by kernel_rfl) Go.L12.asks_row (GOk.none _ _) hval hW hsz
theorem over : Rows.commandAsksRow.holds Try.pinned (OpenSpec.ofChange Rows.commandAsksSpec) :=
  OpenClaim.holds_of_wide 10 Try.f10 rfl rfl rfl rfl rfl rfl rfl ⟨rfl, rfl, rfl, rfl, rfl⟩ rfl rfl rfl rfl rfl (by kernel_rfl) Try.func10 (by kernel_rfl)
    (of_decide_eq_true (by kernel_rfl)) (by unfold Func.isWrapper; first | (rw [if_pos (by decide +kernel)]; kernel_rfl) | (rw [if_neg (by decide +kernel)]; exact ⟨rfl, rfl⟩))
    (fun os started H enc _ => lifted os started H enc)
theorem proved : Rows.CommandAsksSaid := over
#print axioms proved
end Go.Proofs.Ytjkmndfipanalaa.commandAsks
namespace Go.Proofs.Ytjkmndfipanalaa
/-- The row, under a short name, for the claim. -/
theorem commandAsks_holds : Rows.CommandAsksSaid := commandAsks.proved
end Go.Proofs.Ytjkmndfipanalaa

/- The law rookerylaw12.CommandMessages returns true at every input, and what it reads reads behind the call as it read before. No condition. The texts named Abs.. are a symbolic evaluator of the program's code, proved sound; the other texts evaluate the program's functions by it. -/
import Derived.Test.YtjkmndfipanalaaL12g4
import Derived.Test.YtjkmndfipanalaaRows
namespace Go.Proofs.Ytjkmndfipanalaa.commandMessages
open Go.ChangeShapes Go.WideShapes Go.ChangeAt Go.RowKit Go.Abs
set_option linter.unusedVariables false

theorem own : ownKnob Try.prog.godebug = none := by kernel_rfl
set_option maxRecDepth 100000 in
theorem lifted (os : Os) (started : os.Started) (H : Type) (enc : TypeId × Value → H) :
    ReturnsInHanded {} Try.checked os 7 .any (Rows.commandMessagesSpec.pre6 enc Try.prog Try.f7 Rows.commandMessagesRow.domain false) (Rows.commandMessagesSpec.post enc Try.prog Try.f7 false true false false) := by
  refine returnsInHanded_of_change_sized (C := Try.checked) own started (by kernel_rfl) Try.func7
    (ChangeSpec.witness6 (enc := enc) (C := Try.checked) false ⟨#[], #[.agg #[.int .i64 0, .int .i64 0, .int .i64 0, .int .i64 0, .int .i64 0, .int .i64 0, .int .i64 0, .slice none 0 0, .int .i64 0, .bool false, .string ⟨#[]⟩]], []⟩ 8 (by kernel_rfl) (by kernel_rfl) (by kernel_rfl) (by kernel_rfl)) ?_
  intro W base args ds gs before hval hW hcnd hsz _
  exact law_calls (dep := 20) (by kernel_rfl) rfl (fun ds h => by match ds, h with | [_], _ => exact ⟨rfl, rfl, rfl⟩) rfl Try.underlying4 rfl (by kernel_rfl) (by kernel_rfl) (by kernel_rfl) (by kernel_rfl) Go.L12.messages_row (GOk.none _ _) hval hW hsz
theorem over : Rows.commandMessagesRow.holds Try.pinned (OpenSpec.ofChange Rows.commandMessagesSpec) :=
  OpenClaim.holds_of_wide 7 Try.f7 rfl rfl rfl rfl rfl rfl rfl ⟨rfl, rfl, rfl, rfl, rfl⟩ rfl rfl rfl rfl rfl (by kernel_rfl) Try.func7 (by kernel_rfl)
    (of_decide_eq_true (by kernel_rfl)) (by unfold Func.isWrapper; first | (rw [if_pos (by decide +kernel)]; kernel_rfl) | (rw [if_neg (by decide +kernel)]; exact ⟨rfl, rfl⟩))
    (fun os started H enc _ => lifted os started H enc)
theorem proved : Rows.CommandMessagesSaid := over
#print axioms proved
end Go.Proofs.Ytjkmndfipanalaa.commandMessages
namespace Go.Proofs.Ytjkmndfipanalaa
/-- The row, under a short name, for the claim. -/
theorem commandMessages_holds : Rows.CommandMessagesSaid := commandMessages.proved
end Go.Proofs.Ytjkmndfipanalaa

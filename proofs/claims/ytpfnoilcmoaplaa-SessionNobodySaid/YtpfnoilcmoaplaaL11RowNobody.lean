/- The law rookerylaw11.SessionNobody returns true at every input, and what it reads reads behind the call as it read before. No condition. The texts named Abs.. are a symbolic evaluator of the program's code, proved sound; the other texts evaluate the program's functions by it. -/
import Derived.Test.YtpfnoilcmoaplaaL11g0
import Derived.Test.YtpfnoilcmoaplaaRows
namespace Go.Proofs.Ytpfnoilcmoaplaa.sessionNobody
open Go.ChangeShapes Go.WideShapes Go.ChangeAt Go.RowKit Go.Abs
set_option linter.unusedVariables false

theorem own : ownKnob Try.prog.godebug = none := by kernel_rfl
set_option maxRecDepth 100000 in
theorem lifted (os : Os) (started : os.Started) (H : Type) (enc : TypeId × Value → H) :
    ReturnsInHanded {} Try.checked os 8 .any (Rows.sessionNobodySpec.pre6 enc Try.prog Try.f8 Rows.sessionNobodyRow.domain false) (Rows.sessionNobodySpec.post enc Try.prog Try.f8 false true false false) := by
  refine returnsInHanded_of_change_sized (C := Try.checked) own started (by kernel_rfl) Try.func8
    (ChangeSpec.witness6 (enc := enc) (C := Try.checked) false ⟨#[], #[.agg #[.int .i64 0, .int .i64 0]], []⟩ 8 (by kernel_rfl) (by kernel_rfl) (by kernel_rfl) (by kernel_rfl)) ?_
  intro W base args ds gs before hval hW hcnd hsz _
  exact law_calls (dep := 20) (by kernel_rfl) rfl (fun ds h => by match ds, h with | [_], _ => exact ⟨rfl, rfl, rfl⟩) rfl Try.underlying4 rfl (by kernel_rfl) (by kernel_rfl) (by kernel_rfl) (by kernel_rfl) Go.L11.nobody_row (GOk.none _ _) hval hW hsz
theorem over : Rows.sessionNobodyRow.holds Try.pinned (OpenSpec.ofChange Rows.sessionNobodySpec) :=
  OpenClaim.holds_of_wide 8 Try.f8 rfl rfl rfl rfl rfl rfl rfl ⟨rfl, rfl, rfl, rfl, rfl⟩ rfl rfl rfl rfl rfl (by kernel_rfl) Try.func8 (by kernel_rfl)
    (of_decide_eq_true (by kernel_rfl)) (by unfold Func.isWrapper; first | (rw [if_pos (by decide +kernel)]; kernel_rfl) | (rw [if_neg (by decide +kernel)]; exact ⟨rfl, rfl⟩))
    (fun os started H enc _ => lifted os started H enc)
theorem proved : Rows.SessionNobodySaid := over
#print axioms proved
end Go.Proofs.Ytpfnoilcmoaplaa.sessionNobody
namespace Go.Proofs.Ytpfnoilcmoaplaa
/-- The row, under a short name, for the claim. -/
theorem sessionNobody_holds : Rows.SessionNobodySaid := sessionNobody.proved
end Go.Proofs.Ytpfnoilcmoaplaa

/- The law rookerylaw09.ModelEnds returns true at every input, and what it reads reads behind the call as it read before; the listed variables are tied to the program's text (the card). The texts named Abs.. are a symbolic evaluator of the program's code, proved sound; the other texts evaluate the program's functions by it. -/
import Derived.Test.YtpncnfhfjegibaaDoorL09e3
import Derived.Test.YtpncnfhfjegibaaDoorRows
import Derived.Test.YtpncnfhfjegibaaDoorCards
import Derived.Test.YtpncnfhfjegibaaDoorTie
import Derived.Lay
import Derived.MakeChecks
namespace Go.Proofs.YtpncnfhfjegibaaDoor.modelEnds
open Go.ChangeShapes Go.WideShapes Go.ChangeAt Go.RowKit Go.Abs
set_option linter.unusedVariables false

theorem own : ownKnob Tryd.prog.godebug = none := by kernel_rfl
set_option maxRecDepth 100000 in
theorem lifted (os : Os) (started : os.Started) (H : Type) (enc : TypeId × Value → H) :
    ReturnsInHanded {} Tryd.checked os 9 .any (fun w args => (Rows.modelEndsSpec.pre enc Tryd.prog Tryd.f9 Rows.modelEndsRow.domain false w args ∧ laidMetH Tryd.prog Go.MN.laidL w) ∧ sizedMet enc Tryd.prog Tryd.f9 (OpenSpec.ofChange Rows.modelEndsSpec) false w args)
      (Rows.modelEndsSpec.post enc Tryd.prog Tryd.f9 false true false false) := by
  refine returnsInHanded_of_change_and (C := Tryd.checked) (X := fun w _ => laidMetH Tryd.prog Go.MN.laidL w) (fun _ _ _ hh h => h.of_heap hh) own started (by kernel_rfl) Tryd.func9
    (ChangeSpec.witness_shaped (enc := enc) (C := Tryd.checked) (os := os) (X := fun w _ => laidMetH Tryd.prog Go.MN.laidL w) false (World.laidAll Tryd.prog os Go.MN.laidL) #[.slice none 0 0] 8 (World.laidAll_os _ _ _)
      (World.shaped_of_ZipB (by kernel_rfl) (by kernel_rfl)) (by kernel_rfl) (by kernel_rfl) (by kernel_rfl)
      (by rw [MakeChecks.laidMetH_plain _ _ _ (by kernel_rfl)]; exact laidMet_laidAll _ (by kernel_rfl) (by kernel_rfl))) ?_
  intro W base args ds gs before hval hW hcnd hsz hL _
  exact law_calls (dep := 20) (by kernel_rfl) rfl (fun ds h => by match ds, h with | [_], _ => exact ⟨rfl, rfl, rfl⟩) rfl Tryd.underlying4 rfl (by kernel_rfl) (by kernel_rfl) (by kernel_rfl) (by kernel_rfl) Go.MN.ends_row (Go.MN.gok hL) hval hW hsz
theorem over : Rows.modelEndsRow.holds Tryd.pinned (OpenSpec.ofChange Rows.modelEndsSpec) :=
  OpenClaim.holds_of_wide 9 Tryd.f9 rfl rfl rfl rfl rfl rfl rfl ⟨rfl, rfl, rfl, rfl, rfl⟩ rfl rfl rfl rfl rfl (by kernel_rfl) Tryd.func9 (by kernel_rfl)
    (of_decide_eq_true (by kernel_rfl)) (by unfold Func.isWrapper; first | (rw [if_pos (by decide +kernel)]; kernel_rfl) | (rw [if_neg (by decide +kernel)]; exact ⟨rfl, rfl⟩))
    (fun os started H enc _ => lifted os started H enc)
theorem proved : Rows.ModelEndsCardSaid :=
  Claim7.holds_tied_plain_at .later [] [.data, .pinned] true (true, "105b356d5bece783eda71b963854c0e0caeb03606a32fa1f8afe6365796d3ecf") true
    over (fun _ h => by cases h) (by kernel_rfl) (fun _ h => by cases h) modelEnds_row_tie rfl ⟨rfl, rfl⟩ (by kernel_rfl) rfl
    (fun f fn hf hfn => by
      obtain rfl : f = 9 := (Option.some.inj ((show Tryd.pinned.checked.prog.funcNamed Rows.modelEndsRow.func = some 9 by kernel_rfl).symm.trans hf)).symm
      obtain rfl : fn = Tryd.f9 := (Option.some.inj (Tryd.func9.symm.trans hfn)).symm
      have key : (Tryd.f9.params.toList.all fun t => !Tryd.pinned.checked.prog.wantsStandIn t) = true := by kernel_rfl
      exact ⟨by kernel_rfl, fun j t ht => by
        have := List.all_eq_true.1 key t (List.mem_of_getElem? (by rw [Array.getElem?_toList]; exact ht))
        simpa using this⟩)
    (by kernel_rfl)
#print axioms proved
end Go.Proofs.YtpncnfhfjegibaaDoor.modelEnds
namespace Go.Proofs.YtpncnfhfjegibaaDoor
/-- The card, under a short name, for the claim. -/
theorem modelEnds_holds : Rows.ModelEndsCardSaid := modelEnds.proved
end Go.Proofs.YtpncnfhfjegibaaDoor

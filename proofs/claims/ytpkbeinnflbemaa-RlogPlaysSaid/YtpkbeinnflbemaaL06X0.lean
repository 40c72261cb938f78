import Derived.Test.YtpkbeinnflbemaaL06C
import Derived.Test.YtpkbeinnflbemaaAbsLaw
set_option linter.unusedVariables false
set_option linter.unusedSimpArgs false
set_option maxRecDepth 100000
namespace Go.L06
open Go Go.Abs Go.Proofs

abbrev L52 : Lg := ⟨5, 2, true, []⟩
abbrev x3 : En := ⟨3, ⟨#[120]⟩⟩
theorem L52_ok : L52.ok := ⟨by decide, by decide, by decide, fun _ => rfl⟩
theorem why52 : L52.why x3 = 0 := by kernel_rfl
theorem awake_ok : FOk Try.prog 9 [] [] (.bool true) [] := by
  have hA := add_ok L52_ok why52
  have h1 := base_ok (L52.add x3)
  have h2 := last_ok hA
  have h3 := entry_ok hA 5
  have h4 := term_ok hA 5
  have h5 := append_yes L52_ok x3 why52
  have h6 := new_ok 5 2 (by decide) (by decide) (by decide) (by decide)
  exact awake_1 ((L52.add x3).l.map En.row) h1 h2 h3 h4 h5 h6

end Go.L06

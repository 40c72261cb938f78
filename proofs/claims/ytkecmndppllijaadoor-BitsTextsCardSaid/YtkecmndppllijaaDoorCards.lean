/-
  DERIVED. GIVEN WITH THE SEED: THE CARDS: each row of YtkecmndppllijaaDoorRows.lean that lists a variable, with what it lists TIED to the program's text (the seventh form; the later family's looks); each row that meets fmt, with fmt's text TOLD by the authors' own Lean function (tested against real Go, not proved from fmt's source: count such statements apart). THE CARD IS WHAT COUNTS. Prove the row's statement (the work); the ties are given (YtkecmndppllijaaDoorTie.lean); close each card by the builder's one call (the guide's Derived/Test/ToyasCard.lean, 'card_holds'). Laid BY PROGRAM, IN A SANDBOX (cutbox-door.mjs). By AI agents, Wed Nov 11 2026. No macro, syntax, notation, axiom, sorry.
-/
import Derived.Test.YtkecmndppllijaaDoorRows
import GoSem.ClaimSeven
namespace Go.Proofs.YtkecmndppllijaaDoor
namespace Rows

/-- THE TIED CARD OF 'rookerylaw01.BitsRunes'. -/
def bitsRunesCard : Claim7 := { stood := { row := bitsRunesRow, standIns := [], harness := (true, "be7acecde9c37698321fe64883af1127a153ebe5e6c4c4e17d2e8c1f9265cb1b"), looks := false }, kinds := [], alts := [], laidByText := true, laidKinds := [.data, .pinned], laidTests := true, laidLooks := .later }
def BitsRunesCardSaid : Prop := Claim7.holds Tryd.pinned (.plain (OpenSpec.ofChange bitsRunesSpec)) bitsRunesCard

/-- THE TIED CARD OF 'rookerylaw01.BitsOrder'. -/
def bitsOrderCard : Claim7 := { stood := { row := bitsOrderRow, standIns := [], harness := (true, "be7acecde9c37698321fe64883af1127a153ebe5e6c4c4e17d2e8c1f9265cb1b"), looks := false }, kinds := [], alts := [], laidByText := true, laidKinds := [.data, .pinned], laidTests := true, laidLooks := .later }
def BitsOrderCardSaid : Prop := Claim7.holds Tryd.pinned (.plain (OpenSpec.ofChange bitsOrderSpec)) bitsOrderCard

/-- THE TIED CARD OF 'rookerylaw01.BitsVars'. -/
def bitsVarsCard : Claim7 := { stood := { row := bitsVarsRow, standIns := [], harness := (true, "be7acecde9c37698321fe64883af1127a153ebe5e6c4c4e17d2e8c1f9265cb1b"), looks := false }, kinds := [], alts := [], laidByText := true, laidKinds := [.data, .pinned], laidTests := true, laidLooks := .later }
def BitsVarsCardSaid : Prop := Claim7.holds Tryd.pinned (.plain (OpenSpec.ofChange bitsVarsSpec)) bitsVarsCard

/-- THE TIED CARD OF 'rookerylaw01.BitsFixes'. -/
def bitsFixesCard : Claim7 := { stood := { row := bitsFixesRow, standIns := [], harness := (true, "be7acecde9c37698321fe64883af1127a153ebe5e6c4c4e17d2e8c1f9265cb1b"), looks := false }, kinds := [], alts := [], laidByText := true, laidKinds := [.data, .pinned], laidTests := true, laidLooks := .later }
def BitsFixesCardSaid : Prop := Claim7.holds Tryd.pinned (.plain (OpenSpec.ofChange bitsFixesSpec)) bitsFixesCard

/-- THE TIED CARD OF 'rookerylaw01.BitsTexts'. -/
def bitsTextsCard : Claim7 := { stood := { row := bitsTextsRow, standIns := [], harness := (true, "be7acecde9c37698321fe64883af1127a153ebe5e6c4c4e17d2e8c1f9265cb1b"), looks := false }, kinds := [], alts := [], laidByText := true, laidKinds := [.data, .pinned], laidTests := true, laidLooks := .later }
def BitsTextsCardSaid : Prop := Claim7.holds Tryd.pinned (.plain (OpenSpec.ofChange bitsTextsSpec)) bitsTextsCard

/-- THE TIED CARD OF 'rookerylaw01.BitsApart'. -/
def bitsApartCard : Claim7 := { stood := { row := bitsApartRow, standIns := [], harness := (true, "be7acecde9c37698321fe64883af1127a153ebe5e6c4c4e17d2e8c1f9265cb1b"), looks := false }, kinds := [], alts := [], laidByText := true, laidKinds := [.data, .pinned], laidTests := true, laidLooks := .later }
def BitsApartCardSaid : Prop := Claim7.holds Tryd.pinned (.plain (OpenSpec.ofChange bitsApartSpec)) bitsApartCard

/-- THE SECOND FORM's CARD OF 'rookerylaw01.BitsRunes'. -/
def bitsRunesUptoCard : Claim7 := { stood := { row := bitsRunesUptoRow, standIns := [], harness := (true, "be7acecde9c37698321fe64883af1127a153ebe5e6c4c4e17d2e8c1f9265cb1b"), looks := false }, kinds := [], alts := [], laidByText := true, laidKinds := [.data, .pinned], laidTests := true, laidLooks := .later }
def BitsRunesUptoCardSaid : Prop := Claim7.holds Tryd.pinned (.plain (OpenSpec.upto bitsRunesSpec)) bitsRunesUptoCard

/-- THE SECOND FORM's CARD OF 'rookerylaw01.BitsOrder'. -/
def bitsOrderUptoCard : Claim7 := { stood := { row := bitsOrderUptoRow, standIns := [], harness := (true, "be7acecde9c37698321fe64883af1127a153ebe5e6c4c4e17d2e8c1f9265cb1b"), looks := false }, kinds := [], alts := [], laidByText := true, laidKinds := [.data, .pinned], laidTests := true, laidLooks := .later }
def BitsOrderUptoCardSaid : Prop := Claim7.holds Tryd.pinned (.plain (OpenSpec.upto bitsOrderSpec)) bitsOrderUptoCard

/-- THE SECOND FORM's CARD OF 'rookerylaw01.BitsVars'. -/
def bitsVarsUptoCard : Claim7 := { stood := { row := bitsVarsUptoRow, standIns := [], harness := (true, "be7acecde9c37698321fe64883af1127a153ebe5e6c4c4e17d2e8c1f9265cb1b"), looks := false }, kinds := [], alts := [], laidByText := true, laidKinds := [.data, .pinned], laidTests := true, laidLooks := .later }
def BitsVarsUptoCardSaid : Prop := Claim7.holds Tryd.pinned (.plain (OpenSpec.upto bitsVarsSpec)) bitsVarsUptoCard

/-- THE SECOND FORM's CARD OF 'rookerylaw01.BitsFixes'. -/
def bitsFixesUptoCard : Claim7 := { stood := { row := bitsFixesUptoRow, standIns := [], harness := (true, "be7acecde9c37698321fe64883af1127a153ebe5e6c4c4e17d2e8c1f9265cb1b"), looks := false }, kinds := [], alts := [], laidByText := true, laidKinds := [.data, .pinned], laidTests := true, laidLooks := .later }
def BitsFixesUptoCardSaid : Prop := Claim7.holds Tryd.pinned (.plain (OpenSpec.upto bitsFixesSpec)) bitsFixesUptoCard

/-- THE SECOND FORM's CARD OF 'rookerylaw01.BitsTexts'. -/
def bitsTextsUptoCard : Claim7 := { stood := { row := bitsTextsUptoRow, standIns := [], harness := (true, "be7acecde9c37698321fe64883af1127a153ebe5e6c4c4e17d2e8c1f9265cb1b"), looks := false }, kinds := [], alts := [], laidByText := true, laidKinds := [.data, .pinned], laidTests := true, laidLooks := .later }
def BitsTextsUptoCardSaid : Prop := Claim7.holds Tryd.pinned (.plain (OpenSpec.upto bitsTextsSpec)) bitsTextsUptoCard

/-- THE SECOND FORM's CARD OF 'rookerylaw01.BitsApart'. -/
def bitsApartUptoCard : Claim7 := { stood := { row := bitsApartUptoRow, standIns := [], harness := (true, "be7acecde9c37698321fe64883af1127a153ebe5e6c4c4e17d2e8c1f9265cb1b"), looks := false }, kinds := [], alts := [], laidByText := true, laidKinds := [.data, .pinned], laidTests := true, laidLooks := .later }
def BitsApartUptoCardSaid : Prop := Claim7.holds Tryd.pinned (.plain (OpenSpec.upto bitsApartSpec)) bitsApartUptoCard
end Rows
end Go.Proofs.YtkecmndppllijaaDoor

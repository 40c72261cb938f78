/-
  DERIVED. GIVEN WITH THE SEED: THE CARDS: each row of YtpncnfhfjegibaaDoorRows.lean that lists a variable, with what it lists TIED to the program's text (the seventh form; the later family's looks); each row that meets fmt, with fmt's text TOLD by the authors' own Lean function (tested against real Go, not proved from fmt's source: count such statements apart). THE CARD IS WHAT COUNTS. Prove the row's statement (the work); the ties are given (YtpncnfhfjegibaaDoorTie.lean); close each card by the builder's one call (the guide's Derived/Test/ToyasCard.lean, 'card_holds'). Laid BY PROGRAM, IN A SANDBOX (cutbox-door.mjs). By AI agents, Wed Nov 11 2026. No macro, syntax, notation, axiom, sorry.
-/
import Derived.Test.YtpncnfhfjegibaaDoorRows
import GoSem.ClaimSeven
namespace Go.Proofs.YtpncnfhfjegibaaDoor
namespace Rows

/-- THE TIED CARD OF 'rookerylaw09.ModelStays'. -/
def modelStaysCard : Claim7 := { stood := { row := modelStaysRow, standIns := [], harness := (true, "105b356d5bece783eda71b963854c0e0caeb03606a32fa1f8afe6365796d3ecf"), looks := true }, kinds := [], alts := [], laidByText := true, laidKinds := [.data, .pinned], laidTests := true, laidLooks := .later }
def ModelStaysCardSaid : Prop := Claim7.holds Tryd.pinned (.plain (OpenSpec.ofChange modelStaysSpec)) modelStaysCard

/-- THE TIED CARD OF 'rookerylaw09.ModelPages'. -/
def modelPagesCard : Claim7 := { stood := { row := modelPagesRow, standIns := [], harness := (true, "105b356d5bece783eda71b963854c0e0caeb03606a32fa1f8afe6365796d3ecf"), looks := true }, kinds := [], alts := [], laidByText := true, laidKinds := [.data, .pinned], laidTests := true, laidLooks := .later }
def ModelPagesCardSaid : Prop := Claim7.holds Tryd.pinned (.plain (OpenSpec.ofChange modelPagesSpec)) modelPagesCard

/-- THE TIED CARD OF 'rookerylaw09.ModelFull'. -/
def modelFullCard : Claim7 := { stood := { row := modelFullRow, standIns := [], harness := (true, "105b356d5bece783eda71b963854c0e0caeb03606a32fa1f8afe6365796d3ecf"), looks := true }, kinds := [], alts := [], laidByText := true, laidKinds := [.data, .pinned], laidTests := true, laidLooks := .later }
def ModelFullCardSaid : Prop := Claim7.holds Tryd.pinned (.plain (OpenSpec.ofChange modelFullSpec)) modelFullCard

/-- THE TIED CARD OF 'rookerylaw09.ModelApart'. -/
def modelApartCard : Claim7 := { stood := { row := modelApartRow, standIns := [], harness := (true, "105b356d5bece783eda71b963854c0e0caeb03606a32fa1f8afe6365796d3ecf"), looks := true }, kinds := [], alts := [], laidByText := true, laidKinds := [.data, .pinned], laidTests := true, laidLooks := .later }
def ModelApartCardSaid : Prop := Claim7.holds Tryd.pinned (.plain (OpenSpec.ofChange modelApartSpec)) modelApartCard

/-- THE TIED CARD OF 'rookerylaw09.ModelUsers'. -/
def modelUsersCard : Claim7 := { stood := { row := modelUsersRow, standIns := [], harness := (true, "105b356d5bece783eda71b963854c0e0caeb03606a32fa1f8afe6365796d3ecf"), looks := true }, kinds := [], alts := [], laidByText := true, laidKinds := [.data, .pinned], laidTests := true, laidLooks := .later }
def ModelUsersCardSaid : Prop := Claim7.holds Tryd.pinned (.plain (OpenSpec.ofChange modelUsersSpec)) modelUsersCard

/-- THE TIED CARD OF 'rookerylaw09.ModelMoves'. -/
def modelMovesCard : Claim7 := { stood := { row := modelMovesRow, standIns := [], harness := (true, "105b356d5bece783eda71b963854c0e0caeb03606a32fa1f8afe6365796d3ecf"), looks := true }, kinds := [], alts := [], laidByText := true, laidKinds := [.data, .pinned], laidTests := true, laidLooks := .later }
def ModelMovesCardSaid : Prop := Claim7.holds Tryd.pinned (.plain (OpenSpec.ofChange modelMovesSpec)) modelMovesCard

/-- THE TIED CARD OF 'rookerylaw09.ModelEnds'. -/
def modelEndsCard : Claim7 := { stood := { row := modelEndsRow, standIns := [], harness := (true, "105b356d5bece783eda71b963854c0e0caeb03606a32fa1f8afe6365796d3ecf"), looks := true }, kinds := [], alts := [], laidByText := true, laidKinds := [.data, .pinned], laidTests := true, laidLooks := .later }
def ModelEndsCardSaid : Prop := Claim7.holds Tryd.pinned (.plain (OpenSpec.ofChange modelEndsSpec)) modelEndsCard

/-- THE TIED CARD OF 'rookerylaw09.ModelPlays'. -/
def modelPlaysCard : Claim7 := { stood := { row := modelPlaysRow, standIns := [], harness := (true, "105b356d5bece783eda71b963854c0e0caeb03606a32fa1f8afe6365796d3ecf"), looks := true }, kinds := [], alts := [], laidByText := true, laidKinds := [.data, .pinned], laidTests := true, laidLooks := .later }
def ModelPlaysCardSaid : Prop := Claim7.holds Tryd.pinned (.plain (OpenSpec.ofChange modelPlaysSpec)) modelPlaysCard

/-- THE TIED CARD OF 'rookerylaw09.ModelNobody'. -/
def modelNobodyCard : Claim7 := { stood := { row := modelNobodyRow, standIns := [], harness := (true, "105b356d5bece783eda71b963854c0e0caeb03606a32fa1f8afe6365796d3ecf"), looks := true }, kinds := [], alts := [], laidByText := true, laidKinds := [.data, .pinned], laidTests := true, laidLooks := .later }
def ModelNobodyCardSaid : Prop := Claim7.holds Tryd.pinned (.plain (OpenSpec.ofChange modelNobodySpec)) modelNobodyCard

/-- THE SECOND FORM's CARD OF 'rookerylaw09.ModelStays'. -/
def modelStaysUptoCard : Claim7 := { stood := { row := modelStaysUptoRow, standIns := [], harness := (true, "105b356d5bece783eda71b963854c0e0caeb03606a32fa1f8afe6365796d3ecf"), looks := true }, kinds := [], alts := [], laidByText := true, laidKinds := [.data, .pinned], laidTests := true, laidLooks := .later }
def ModelStaysUptoCardSaid : Prop := Claim7.holds Tryd.pinned (.plain (OpenSpec.upto modelStaysSpec)) modelStaysUptoCard

/-- THE SECOND FORM's CARD OF 'rookerylaw09.ModelPages'. -/
def modelPagesUptoCard : Claim7 := { stood := { row := modelPagesUptoRow, standIns := [], harness := (true, "105b356d5bece783eda71b963854c0e0caeb03606a32fa1f8afe6365796d3ecf"), looks := true }, kinds := [], alts := [], laidByText := true, laidKinds := [.data, .pinned], laidTests := true, laidLooks := .later }
def ModelPagesUptoCardSaid : Prop := Claim7.holds Tryd.pinned (.plain (OpenSpec.upto modelPagesSpec)) modelPagesUptoCard

/-- THE SECOND FORM's CARD OF 'rookerylaw09.ModelFull'. -/
def modelFullUptoCard : Claim7 := { stood := { row := modelFullUptoRow, standIns := [], harness := (true, "105b356d5bece783eda71b963854c0e0caeb03606a32fa1f8afe6365796d3ecf"), looks := true }, kinds := [], alts := [], laidByText := true, laidKinds := [.data, .pinned], laidTests := true, laidLooks := .later }
def ModelFullUptoCardSaid : Prop := Claim7.holds Tryd.pinned (.plain (OpenSpec.upto modelFullSpec)) modelFullUptoCard

/-- THE SECOND FORM's CARD OF 'rookerylaw09.ModelApart'. -/
def modelApartUptoCard : Claim7 := { stood := { row := modelApartUptoRow, standIns := [], harness := (true, "105b356d5bece783eda71b963854c0e0caeb03606a32fa1f8afe6365796d3ecf"), looks := true }, kinds := [], alts := [], laidByText := true, laidKinds := [.data, .pinned], laidTests := true, laidLooks := .later }
def ModelApartUptoCardSaid : Prop := Claim7.holds Tryd.pinned (.plain (OpenSpec.upto modelApartSpec)) modelApartUptoCard

/-- THE SECOND FORM's CARD OF 'rookerylaw09.ModelUsers'. -/
def modelUsersUptoCard : Claim7 := { stood := { row := modelUsersUptoRow, standIns := [], harness := (true, "105b356d5bece783eda71b963854c0e0caeb03606a32fa1f8afe6365796d3ecf"), looks := true }, kinds := [], alts := [], laidByText := true, laidKinds := [.data, .pinned], laidTests := true, laidLooks := .later }
def ModelUsersUptoCardSaid : Prop := Claim7.holds Tryd.pinned (.plain (OpenSpec.upto modelUsersSpec)) modelUsersUptoCard

/-- THE SECOND FORM's CARD OF 'rookerylaw09.ModelMoves'. -/
def modelMovesUptoCard : Claim7 := { stood := { row := modelMovesUptoRow, standIns := [], harness := (true, "105b356d5bece783eda71b963854c0e0caeb03606a32fa1f8afe6365796d3ecf"), looks := true }, kinds := [], alts := [], laidByText := true, laidKinds := [.data, .pinned], laidTests := true, laidLooks := .later }
def ModelMovesUptoCardSaid : Prop := Claim7.holds Tryd.pinned (.plain (OpenSpec.upto modelMovesSpec)) modelMovesUptoCard

/-- THE SECOND FORM's CARD OF 'rookerylaw09.ModelEnds'. -/
def modelEndsUptoCard : Claim7 := { stood := { row := modelEndsUptoRow, standIns := [], harness := (true, "105b356d5bece783eda71b963854c0e0caeb03606a32fa1f8afe6365796d3ecf"), looks := true }, kinds := [], alts := [], laidByText := true, laidKinds := [.data, .pinned], laidTests := true, laidLooks := .later }
def ModelEndsUptoCardSaid : Prop := Claim7.holds Tryd.pinned (.plain (OpenSpec.upto modelEndsSpec)) modelEndsUptoCard

/-- THE SECOND FORM's CARD OF 'rookerylaw09.ModelPlays'. -/
def modelPlaysUptoCard : Claim7 := { stood := { row := modelPlaysUptoRow, standIns := [], harness := (true, "105b356d5bece783eda71b963854c0e0caeb03606a32fa1f8afe6365796d3ecf"), looks := true }, kinds := [], alts := [], laidByText := true, laidKinds := [.data, .pinned], laidTests := true, laidLooks := .later }
def ModelPlaysUptoCardSaid : Prop := Claim7.holds Tryd.pinned (.plain (OpenSpec.upto modelPlaysSpec)) modelPlaysUptoCard

/-- THE SECOND FORM's CARD OF 'rookerylaw09.ModelNobody'. -/
def modelNobodyUptoCard : Claim7 := { stood := { row := modelNobodyUptoRow, standIns := [], harness := (true, "105b356d5bece783eda71b963854c0e0caeb03606a32fa1f8afe6365796d3ecf"), looks := true }, kinds := [], alts := [], laidByText := true, laidKinds := [.data, .pinned], laidTests := true, laidLooks := .later }
def ModelNobodyUptoCardSaid : Prop := Claim7.holds Tryd.pinned (.plain (OpenSpec.upto modelNobodySpec)) modelNobodyUptoCard
end Rows
end Go.Proofs.YtpncnfhfjegibaaDoor

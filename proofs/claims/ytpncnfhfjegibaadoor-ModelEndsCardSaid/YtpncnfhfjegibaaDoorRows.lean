/-
  NARROWER THAN 'FOR EVERY INPUT', by the rows' own cells (each row's printed sentence says how): ModelStays: laid · ModelPages: laid · ModelFull: laid · ModelApart: laid · ModelUsers: laid · ModelMoves: laid · ModelEnds: laid · ModelPlays: laid · ModelNobody: laid.
  DERIVED. THE GIVEN ROWS OF THIS SEAT. 9 by the template 'for every input the law returns true; each argument reads behind the call as it read before'; 0 by the template 'total and deterministic' (their statements: YtpncnfhfjegibaaDoorTotals.lean).
  GIVEN WITH THE SEED: the statements are not yours to turn. If you find one false, say at which input.
  Laid BY PROGRAM, IN A SANDBOX (cutbox-rows.mjs): the forced cells as the released guide's own fill.sh prints them over the translation e4063ec262e4e6c0… (all of the seat's roots in one cut). By AI agents, Wed Nov 11 2026. No macro, syntax, notation, axiom, sorry.
-/
import Derived.Test.YtpncnfhfjegibaaDoorChecked
import GoSem.PinnedTables
import GoSem.Claim
import GoSem.ClaimJoined
import GoSem.ClaimMapViews
import Derived.JoinedTies
import Derived.KernelRfl
namespace Go.Proofs.YtpncnfhfjegibaaDoor
/- THE CELL 'sum', in the pinned program and in every row, IS THE sha256 OF THE DUMP (.gsa) THAT YtpncnfhfjegibaaDoorProg.lean LOADS. Nothing in Lean hashes anything: it is a label: what it is worth is what the hold of that sum in a sandbox is worth. -/
noncomputable def Tryd.pinned : Pinned := { name := "ytpncnfhfjegibaadoor", sum := "e4063ec262e4e6c04467387c0fd89a3528ed0438e49294bebd4b7a1ed159885d", checked := Tryd.checked }
namespace Rows
def none {H : Type} : Left H := { results := [], args := [] }

/- WHAT THE LISTED PACKAGE-LEVEL VARIABLES READ AS WHEN THE CALL BEGINS. Each datum BY PROGRAM (the guide's laid-datum.mjs) off the statement by which the dump's own 'gosem.cut.vars' lays the variable. In a bare row this is a premise. The card (YtpncnfhfjegibaaDoorCards.lean) ties it to the program's text. -/
def laid_unicode_utf8_acceptRanges {H : Type} : DataW H := .agg [.agg [.lit (.int .u8 128), .lit (.int .u8 191)], .agg [.lit (.int .u8 160), .lit (.int .u8 191)], .agg [.lit (.int .u8 128), .lit (.int .u8 159)], .agg [.lit (.int .u8 144), .lit (.int .u8 191)], .agg [.lit (.int .u8 128), .lit (.int .u8 143)], .agg [.lit (.int .u8 0), .lit (.int .u8 0)], .agg [.lit (.int .u8 0), .lit (.int .u8 0)], .agg [.lit (.int .u8 0), .lit (.int .u8 0)], .agg [.lit (.int .u8 0), .lit (.int .u8 0)], .agg [.lit (.int .u8 0), .lit (.int .u8 0)], .agg [.lit (.int .u8 0), .lit (.int .u8 0)], .agg [.lit (.int .u8 0), .lit (.int .u8 0)], .agg [.lit (.int .u8 0), .lit (.int .u8 0)], .agg [.lit (.int .u8 0), .lit (.int .u8 0)], .agg [.lit (.int .u8 0), .lit (.int .u8 0)], .agg [.lit (.int .u8 0), .lit (.int .u8 0)]]
/-- One of Go's own tables, pinned by name: the form's constant. -/
def laid_unicode_utf8_first : DataW Unit := Go.Pinned.utf8First

/-- 'rookerylaw09.ModelStays': WHATEVER THE INPUT: true; the input reads as it did. -/
def modelStaysSpec : ChangeSpec := { name := "modelStays", fn := fun _ => fun
  | [d] => { results := [.lit (.bool true)], args := [d] }
  | _ => none }
def modelStaysRow : OpenClaim := { program := "ytpncnfhfjegibaadoor", sum := "e4063ec262e4e6c04467387c0fd89a3528ed0438e49294bebd4b7a1ed159885d", func := "rookery/rookerylaw09.ModelStays", spec := "modelStays", unfollowed := true, recurses := true, named := ["unicode/utf8.first", "unicode/utf8.acceptRanges"], plainKeys := false, apart := false, laid := [("unicode/utf8.acceptRanges", laid_unicode_utf8_acceptRanges), ("unicode/utf8.first", laid_unicode_utf8_first)] }
def ModelStaysSaid : Prop := modelStaysRow.holds Tryd.pinned (OpenSpec.ofChange modelStaysSpec)

/-- ITS FALSE NEIGHBOUR: 'it returns false'. Refute it at one input. -/
def modelStaysWrong : ChangeSpec := { name := "modelStays", fn := fun _ => fun
  | [d] => { results := [.lit (.bool false)], args := [d] }
  | _ => none }
def ModelStaysWrongFalsely : Prop := modelStaysRow.holds Tryd.pinned (OpenSpec.ofChange modelStaysWrong)

/-- 'rookerylaw09.ModelPages': WHATEVER THE INPUT: true; the input reads as it did. -/
def modelPagesSpec : ChangeSpec := { name := "modelPages", fn := fun _ => fun
  | [d1, d2] => { results := [.lit (.bool true)], args := [d1, d2] }
  | _ => none }
def modelPagesRow : OpenClaim := { program := "ytpncnfhfjegibaadoor", sum := "e4063ec262e4e6c04467387c0fd89a3528ed0438e49294bebd4b7a1ed159885d", func := "rookery/rookerylaw09.ModelPages", spec := "modelPages", unfollowed := true, recurses := true, named := ["unicode/utf8.first", "unicode/utf8.acceptRanges"], plainKeys := false, apart := false, laid := [("unicode/utf8.acceptRanges", laid_unicode_utf8_acceptRanges), ("unicode/utf8.first", laid_unicode_utf8_first)] }
def ModelPagesSaid : Prop := modelPagesRow.holds Tryd.pinned (OpenSpec.ofChange modelPagesSpec)

/-- ITS FALSE NEIGHBOUR: 'it returns false'. Refute it at one input. -/
def modelPagesWrong : ChangeSpec := { name := "modelPages", fn := fun _ => fun
  | [d1, d2] => { results := [.lit (.bool false)], args := [d1, d2] }
  | _ => none }
def ModelPagesWrongFalsely : Prop := modelPagesRow.holds Tryd.pinned (OpenSpec.ofChange modelPagesWrong)

/-- 'rookerylaw09.ModelFull': WHATEVER THE INPUT: true; the input reads as it did. -/
def modelFullSpec : ChangeSpec := { name := "modelFull", fn := fun _ => fun
  | [d] => { results := [.lit (.bool true)], args := [d] }
  | _ => none }
def modelFullRow : OpenClaim := { program := "ytpncnfhfjegibaadoor", sum := "e4063ec262e4e6c04467387c0fd89a3528ed0438e49294bebd4b7a1ed159885d", func := "rookery/rookerylaw09.ModelFull", spec := "modelFull", unfollowed := true, recurses := true, named := ["unicode/utf8.first", "unicode/utf8.acceptRanges"], plainKeys := false, apart := false, laid := [("unicode/utf8.acceptRanges", laid_unicode_utf8_acceptRanges), ("unicode/utf8.first", laid_unicode_utf8_first)] }
def ModelFullSaid : Prop := modelFullRow.holds Tryd.pinned (OpenSpec.ofChange modelFullSpec)

/-- ITS FALSE NEIGHBOUR: 'it returns false'. Refute it at one input. -/
def modelFullWrong : ChangeSpec := { name := "modelFull", fn := fun _ => fun
  | [d] => { results := [.lit (.bool false)], args := [d] }
  | _ => none }
def ModelFullWrongFalsely : Prop := modelFullRow.holds Tryd.pinned (OpenSpec.ofChange modelFullWrong)

/-- 'rookerylaw09.ModelApart': WHATEVER THE INPUT: true; the input reads as it did. -/
def modelApartSpec : ChangeSpec := { name := "modelApart", fn := fun _ => fun
  | [d1, d2] => { results := [.lit (.bool true)], args := [d1, d2] }
  | _ => none }
def modelApartRow : OpenClaim := { program := "ytpncnfhfjegibaadoor", sum := "e4063ec262e4e6c04467387c0fd89a3528ed0438e49294bebd4b7a1ed159885d", func := "rookery/rookerylaw09.ModelApart", spec := "modelApart", unfollowed := true, recurses := true, named := ["unicode/utf8.first", "unicode/utf8.acceptRanges"], plainKeys := false, apart := false, laid := [("unicode/utf8.acceptRanges", laid_unicode_utf8_acceptRanges), ("unicode/utf8.first", laid_unicode_utf8_first)] }
def ModelApartSaid : Prop := modelApartRow.holds Tryd.pinned (OpenSpec.ofChange modelApartSpec)

/-- ITS FALSE NEIGHBOUR: 'it returns false'. Refute it at one input. -/
def modelApartWrong : ChangeSpec := { name := "modelApart", fn := fun _ => fun
  | [d1, d2] => { results := [.lit (.bool false)], args := [d1, d2] }
  | _ => none }
def ModelApartWrongFalsely : Prop := modelApartRow.holds Tryd.pinned (OpenSpec.ofChange modelApartWrong)

/-- 'rookerylaw09.ModelUsers': WHATEVER THE INPUT: true; the input reads as it did. -/
def modelUsersSpec : ChangeSpec := { name := "modelUsers", fn := fun _ => fun
  | [d1, d2] => { results := [.lit (.bool true)], args := [d1, d2] }
  | _ => none }
def modelUsersRow : OpenClaim := { program := "ytpncnfhfjegibaadoor", sum := "e4063ec262e4e6c04467387c0fd89a3528ed0438e49294bebd4b7a1ed159885d", func := "rookery/rookerylaw09.ModelUsers", spec := "modelUsers", unfollowed := true, recurses := true, named := ["unicode/utf8.first", "unicode/utf8.acceptRanges"], plainKeys := false, apart := false, laid := [("unicode/utf8.acceptRanges", laid_unicode_utf8_acceptRanges), ("unicode/utf8.first", laid_unicode_utf8_first)] }
def ModelUsersSaid : Prop := modelUsersRow.holds Tryd.pinned (OpenSpec.ofChange modelUsersSpec)

/-- ITS FALSE NEIGHBOUR: 'it returns false'. Refute it at one input. -/
def modelUsersWrong : ChangeSpec := { name := "modelUsers", fn := fun _ => fun
  | [d1, d2] => { results := [.lit (.bool false)], args := [d1, d2] }
  | _ => none }
def ModelUsersWrongFalsely : Prop := modelUsersRow.holds Tryd.pinned (OpenSpec.ofChange modelUsersWrong)

/-- 'rookerylaw09.ModelMoves': WHATEVER THE INPUT: true; the input reads as it did. -/
def modelMovesSpec : ChangeSpec := { name := "modelMoves", fn := fun _ => fun
  | [d] => { results := [.lit (.bool true)], args := [d] }
  | _ => none }
def modelMovesRow : OpenClaim := { program := "ytpncnfhfjegibaadoor", sum := "e4063ec262e4e6c04467387c0fd89a3528ed0438e49294bebd4b7a1ed159885d", func := "rookery/rookerylaw09.ModelMoves", spec := "modelMoves", unfollowed := true, recurses := true, named := ["unicode/utf8.first", "unicode/utf8.acceptRanges"], plainKeys := false, apart := false, laid := [("unicode/utf8.acceptRanges", laid_unicode_utf8_acceptRanges), ("unicode/utf8.first", laid_unicode_utf8_first)] }
def ModelMovesSaid : Prop := modelMovesRow.holds Tryd.pinned (OpenSpec.ofChange modelMovesSpec)

/-- ITS FALSE NEIGHBOUR: 'it returns false'. Refute it at one input. -/
def modelMovesWrong : ChangeSpec := { name := "modelMoves", fn := fun _ => fun
  | [d] => { results := [.lit (.bool false)], args := [d] }
  | _ => none }
def ModelMovesWrongFalsely : Prop := modelMovesRow.holds Tryd.pinned (OpenSpec.ofChange modelMovesWrong)

/-- 'rookerylaw09.ModelEnds': WHATEVER THE INPUT: true; the input reads as it did. -/
def modelEndsSpec : ChangeSpec := { name := "modelEnds", fn := fun _ => fun
  | [d] => { results := [.lit (.bool true)], args := [d] }
  | _ => none }
def modelEndsRow : OpenClaim := { program := "ytpncnfhfjegibaadoor", sum := "e4063ec262e4e6c04467387c0fd89a3528ed0438e49294bebd4b7a1ed159885d", func := "rookery/rookerylaw09.ModelEnds", spec := "modelEnds", unfollowed := true, recurses := true, named := ["unicode/utf8.first", "unicode/utf8.acceptRanges"], plainKeys := false, apart := false, laid := [("unicode/utf8.acceptRanges", laid_unicode_utf8_acceptRanges), ("unicode/utf8.first", laid_unicode_utf8_first)] }
def ModelEndsSaid : Prop := modelEndsRow.holds Tryd.pinned (OpenSpec.ofChange modelEndsSpec)

/-- ITS FALSE NEIGHBOUR: 'it returns false'. Refute it at one input. -/
def modelEndsWrong : ChangeSpec := { name := "modelEnds", fn := fun _ => fun
  | [d] => { results := [.lit (.bool false)], args := [d] }
  | _ => none }
def ModelEndsWrongFalsely : Prop := modelEndsRow.holds Tryd.pinned (OpenSpec.ofChange modelEndsWrong)

/-- 'rookerylaw09.ModelPlays': WHATEVER THE INPUT: true; the input reads as it did. -/
def modelPlaysSpec : ChangeSpec := { name := "modelPlays", fn := fun _ => fun
  | [d] => { results := [.lit (.bool true)], args := [d] }
  | _ => none }
def modelPlaysRow : OpenClaim := { program := "ytpncnfhfjegibaadoor", sum := "e4063ec262e4e6c04467387c0fd89a3528ed0438e49294bebd4b7a1ed159885d", func := "rookery/rookerylaw09.ModelPlays", spec := "modelPlays", inPlace := ["maps.clone"], unfollowed := true, recurses := true, named := ["unicode/utf8.first", "unicode/utf8.acceptRanges"], plainKeys := false, apart := false, laid := [("unicode/utf8.acceptRanges", laid_unicode_utf8_acceptRanges), ("unicode/utf8.first", laid_unicode_utf8_first)] }
def ModelPlaysSaid : Prop := modelPlaysRow.holds Tryd.pinned (OpenSpec.ofChange modelPlaysSpec)

/-- ITS FALSE NEIGHBOUR: 'it returns false'. Refute it at one input. -/
def modelPlaysWrong : ChangeSpec := { name := "modelPlays", fn := fun _ => fun
  | [d] => { results := [.lit (.bool false)], args := [d] }
  | _ => none }
def ModelPlaysWrongFalsely : Prop := modelPlaysRow.holds Tryd.pinned (OpenSpec.ofChange modelPlaysWrong)

/-- 'rookerylaw09.ModelNobody': WHATEVER THE INPUT: true; the input reads as it did. -/
def modelNobodySpec : ChangeSpec := { name := "modelNobody", fn := fun _ => fun
  | [d] => { results := [.lit (.bool true)], args := [d] }
  | _ => none }
def modelNobodyRow : OpenClaim := { program := "ytpncnfhfjegibaadoor", sum := "e4063ec262e4e6c04467387c0fd89a3528ed0438e49294bebd4b7a1ed159885d", func := "rookery/rookerylaw09.ModelNobody", spec := "modelNobody", inPlace := ["maps.clone"], unfollowed := true, recurses := true, named := ["unicode/utf8.first", "unicode/utf8.acceptRanges"], plainKeys := false, apart := false, laid := [("unicode/utf8.acceptRanges", laid_unicode_utf8_acceptRanges), ("unicode/utf8.first", laid_unicode_utf8_first)] }
def ModelNobodySaid : Prop := modelNobodyRow.holds Tryd.pinned (OpenSpec.ofChange modelNobodySpec)

/-- ITS FALSE NEIGHBOUR: 'it returns false'. Refute it at one input. -/
def modelNobodyWrong : ChangeSpec := { name := "modelNobody", fn := fun _ => fun
  | [d] => { results := [.lit (.bool false)], args := [d] }
  | _ => none }
def ModelNobodyWrongFalsely : Prop := modelNobodyRow.holds Tryd.pinned (OpenSpec.ofChange modelNobodyWrong)

/- THE SECOND FORM. 'bulk': how many values and letters a reading holds, each counted each time it is reached (what is shared counts as often as it is met; a slice's spare places count too). A statement '..UptoSaid' is the law's where the arguments, and the package variables that the reading takes, are together of bulk at most 1048576: NARROWER than '..Said'. Prove '..Said' where nothing that the law and all that it calls make is longer than what came in: it says more and counts as full. Else prove '..UptoSaid'. A law counts once. -/
mutual
def uptoBulk {H : Type} : DataW H → Nat
  | .lit (.string bytes) => bytes.length + 1
  | .lit _ => 1
  | .nil => 1
  | .ptr d => uptoBulk d + 1
  | .slice elems spare => uptoBulkAll elems + uptoBulkAll spare + 1
  | .agg parts => uptoBulkAll parts + 1
  | .iface _ d => uptoBulk d + 1
  | .map entries => uptoBulkEntries entries + 1
  | .held _ => 1
def uptoBulkAll {H : Type} : List (DataW H) → Nat
  | [] => 0
  | d :: r => uptoBulk d + uptoBulkAll r
def uptoBulkEntries {H : Type} : List (Lit × DataW H) → Nat
  | [] => 0
  | x :: r => uptoBulkEntry x + uptoBulkEntries r
def uptoBulkEntry {H : Type} : Lit × DataW H → Nat
  | (.string bytes, d) => bytes.length + uptoBulk d + 1
  | (_, d) => uptoBulk d + 1
 end
def uptoSmall : (H : Type) → List (DataW H) → Bool := fun _ ds => decide (uptoBulkAll ds ≤ 1048576)
def OpenSpec.upto (s : _root_.Go.ChangeSpec) : _root_.Go.OpenSpec := { _root_.Go.OpenSpec.ofChange s with cond := some uptoSmall }

/-- 'rookerylaw09.ModelStays', WHERE WHAT IT READS IS OF BULK AT MOST 1048576: true; the input reads as it did. -/
def modelStaysUptoRow : OpenClaim := { program := "ytpncnfhfjegibaadoor", sum := "e4063ec262e4e6c04467387c0fd89a3528ed0438e49294bebd4b7a1ed159885d", func := "rookery/rookerylaw09.ModelStays", spec := "modelStays", unfollowed := true, recurses := true, named := ["unicode/utf8.first", "unicode/utf8.acceptRanges"], plainKeys := false, apart := false, laid := [("unicode/utf8.acceptRanges", laid_unicode_utf8_acceptRanges), ("unicode/utf8.first", laid_unicode_utf8_first)], narrowed := true }
def ModelStaysUptoSaid : Prop := modelStaysUptoRow.holds Tryd.pinned (OpenSpec.upto modelStaysSpec)

/-- 'rookerylaw09.ModelPages', WHERE WHAT IT READS IS OF BULK AT MOST 1048576: true; the input reads as it did. -/
def modelPagesUptoRow : OpenClaim := { program := "ytpncnfhfjegibaadoor", sum := "e4063ec262e4e6c04467387c0fd89a3528ed0438e49294bebd4b7a1ed159885d", func := "rookery/rookerylaw09.ModelPages", spec := "modelPages", unfollowed := true, recurses := true, named := ["unicode/utf8.first", "unicode/utf8.acceptRanges"], plainKeys := false, apart := false, laid := [("unicode/utf8.acceptRanges", laid_unicode_utf8_acceptRanges), ("unicode/utf8.first", laid_unicode_utf8_first)], narrowed := true }
def ModelPagesUptoSaid : Prop := modelPagesUptoRow.holds Tryd.pinned (OpenSpec.upto modelPagesSpec)

/-- 'rookerylaw09.ModelFull', WHERE WHAT IT READS IS OF BULK AT MOST 1048576: true; the input reads as it did. -/
def modelFullUptoRow : OpenClaim := { program := "ytpncnfhfjegibaadoor", sum := "e4063ec262e4e6c04467387c0fd89a3528ed0438e49294bebd4b7a1ed159885d", func := "rookery/rookerylaw09.ModelFull", spec := "modelFull", unfollowed := true, recurses := true, named := ["unicode/utf8.first", "unicode/utf8.acceptRanges"], plainKeys := false, apart := false, laid := [("unicode/utf8.acceptRanges", laid_unicode_utf8_acceptRanges), ("unicode/utf8.first", laid_unicode_utf8_first)], narrowed := true }
def ModelFullUptoSaid : Prop := modelFullUptoRow.holds Tryd.pinned (OpenSpec.upto modelFullSpec)

/-- 'rookerylaw09.ModelApart', WHERE WHAT IT READS IS OF BULK AT MOST 1048576: true; the input reads as it did. -/
def modelApartUptoRow : OpenClaim := { program := "ytpncnfhfjegibaadoor", sum := "e4063ec262e4e6c04467387c0fd89a3528ed0438e49294bebd4b7a1ed159885d", func := "rookery/rookerylaw09.ModelApart", spec := "modelApart", unfollowed := true, recurses := true, named := ["unicode/utf8.first", "unicode/utf8.acceptRanges"], plainKeys := false, apart := false, laid := [("unicode/utf8.acceptRanges", laid_unicode_utf8_acceptRanges), ("unicode/utf8.first", laid_unicode_utf8_first)], narrowed := true }
def ModelApartUptoSaid : Prop := modelApartUptoRow.holds Tryd.pinned (OpenSpec.upto modelApartSpec)

/-- 'rookerylaw09.ModelUsers', WHERE WHAT IT READS IS OF BULK AT MOST 1048576: true; the input reads as it did. -/
def modelUsersUptoRow : OpenClaim := { program := "ytpncnfhfjegibaadoor", sum := "e4063ec262e4e6c04467387c0fd89a3528ed0438e49294bebd4b7a1ed159885d", func := "rookery/rookerylaw09.ModelUsers", spec := "modelUsers", unfollowed := true, recurses := true, named := ["unicode/utf8.first", "unicode/utf8.acceptRanges"], plainKeys := false, apart := false, laid := [("unicode/utf8.acceptRanges", laid_unicode_utf8_acceptRanges), ("unicode/utf8.first", laid_unicode_utf8_first)], narrowed := true }
def ModelUsersUptoSaid : Prop := modelUsersUptoRow.holds Tryd.pinned (OpenSpec.upto modelUsersSpec)

/-- 'rookerylaw09.ModelMoves', WHERE WHAT IT READS IS OF BULK AT MOST 1048576: true; the input reads as it did. -/
def modelMovesUptoRow : OpenClaim := { program := "ytpncnfhfjegibaadoor", sum := "e4063ec262e4e6c04467387c0fd89a3528ed0438e49294bebd4b7a1ed159885d", func := "rookery/rookerylaw09.ModelMoves", spec := "modelMoves", unfollowed := true, recurses := true, named := ["unicode/utf8.first", "unicode/utf8.acceptRanges"], plainKeys := false, apart := false, laid := [("unicode/utf8.acceptRanges", laid_unicode_utf8_acceptRanges), ("unicode/utf8.first", laid_unicode_utf8_first)], narrowed := true }
def ModelMovesUptoSaid : Prop := modelMovesUptoRow.holds Tryd.pinned (OpenSpec.upto modelMovesSpec)

/-- 'rookerylaw09.ModelEnds', WHERE WHAT IT READS IS OF BULK AT MOST 1048576: true; the input reads as it did. -/
def modelEndsUptoRow : OpenClaim := { program := "ytpncnfhfjegibaadoor", sum := "e4063ec262e4e6c04467387c0fd89a3528ed0438e49294bebd4b7a1ed159885d", func := "rookery/rookerylaw09.ModelEnds", spec := "modelEnds", unfollowed := true, recurses := true, named := ["unicode/utf8.first", "unicode/utf8.acceptRanges"], plainKeys := false, apart := false, laid := [("unicode/utf8.acceptRanges", laid_unicode_utf8_acceptRanges), ("unicode/utf8.first", laid_unicode_utf8_first)], narrowed := true }
def ModelEndsUptoSaid : Prop := modelEndsUptoRow.holds Tryd.pinned (OpenSpec.upto modelEndsSpec)

/-- 'rookerylaw09.ModelPlays', WHERE WHAT IT READS IS OF BULK AT MOST 1048576: true; the input reads as it did. -/
def modelPlaysUptoRow : OpenClaim := { program := "ytpncnfhfjegibaadoor", sum := "e4063ec262e4e6c04467387c0fd89a3528ed0438e49294bebd4b7a1ed159885d", func := "rookery/rookerylaw09.ModelPlays", spec := "modelPlays", inPlace := ["maps.clone"], unfollowed := true, recurses := true, named := ["unicode/utf8.first", "unicode/utf8.acceptRanges"], plainKeys := false, apart := false, laid := [("unicode/utf8.acceptRanges", laid_unicode_utf8_acceptRanges), ("unicode/utf8.first", laid_unicode_utf8_first)], narrowed := true }
def ModelPlaysUptoSaid : Prop := modelPlaysUptoRow.holds Tryd.pinned (OpenSpec.upto modelPlaysSpec)

/-- 'rookerylaw09.ModelNobody', WHERE WHAT IT READS IS OF BULK AT MOST 1048576: true; the input reads as it did. -/
def modelNobodyUptoRow : OpenClaim := { program := "ytpncnfhfjegibaadoor", sum := "e4063ec262e4e6c04467387c0fd89a3528ed0438e49294bebd4b7a1ed159885d", func := "rookery/rookerylaw09.ModelNobody", spec := "modelNobody", inPlace := ["maps.clone"], unfollowed := true, recurses := true, named := ["unicode/utf8.first", "unicode/utf8.acceptRanges"], plainKeys := false, apart := false, laid := [("unicode/utf8.acceptRanges", laid_unicode_utf8_acceptRanges), ("unicode/utf8.first", laid_unicode_utf8_first)], narrowed := true }
def ModelNobodyUptoSaid : Prop := modelNobodyUptoRow.holds Tryd.pinned (OpenSpec.upto modelNobodySpec)

end Rows
end Go.Proofs.YtpncnfhfjegibaaDoor

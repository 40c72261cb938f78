/-
  NARROWER THAN 'FOR EVERY INPUT', by the rows' own cells (each row's printed sentence says how): BitsRunes: laid · BitsOrder: laid · BitsVars: laid · BitsFixes: laid · BitsTexts: laid · BitsApart: laid.
  DERIVED. THE GIVEN ROWS OF THIS SEAT. 6 by the template 'for every input the law returns true; each argument reads behind the call as it read before'; 0 by the template 'total and deterministic' (their statements: YtkecmndppllijaaDoorTotals.lean).
  GIVEN WITH THE SEED: the statements are not yours to turn. If you find one false, say at which input.
  Laid BY PROGRAM, IN A SANDBOX (cutbox-rows.mjs): the forced cells as the released guide's own fill.sh prints them over the translation e619c8f09fdfcba2… (all of the seat's roots in one cut). By AI agents, Wed Nov 11 2026. No macro, syntax, notation, axiom, sorry.
-/
import Derived.Test.YtkecmndppllijaaDoorChecked
import GoSem.PinnedTables
import GoSem.Claim
import GoSem.ClaimJoined
import GoSem.ClaimMapViews
import Derived.JoinedTies
import Derived.KernelRfl
namespace Go.Proofs.YtkecmndppllijaaDoor
/- THE CELL 'sum', in the pinned program and in every row, IS THE sha256 OF THE DUMP (.gsa) THAT YtkecmndppllijaaDoorProg.lean LOADS. Nothing in Lean hashes anything: it is a label: what it is worth is what the hold of that sum in a sandbox is worth. -/
noncomputable def Tryd.pinned : Pinned := { name := "ytkecmndppllijaadoor", sum := "e619c8f09fdfcba2e225044f6a2c32d09fa58011d2d25970b72d07ca0a56b18b", checked := Tryd.checked }
namespace Rows
def none {H : Type} : Left H := { results := [], args := [] }

/- WHAT THE LISTED PACKAGE-LEVEL VARIABLES READ AS WHEN THE CALL BEGINS. Each datum BY PROGRAM (the guide's laid-datum.mjs) off the statement by which the dump's own 'gosem.cut.vars' lays the variable. In a bare row this is a premise. The card (YtkecmndppllijaaDoorCards.lean) ties it to the program's text. -/
def laid_unicode_utf8_acceptRanges {H : Type} : DataW H := .agg [.agg [.lit (.int .u8 128), .lit (.int .u8 191)], .agg [.lit (.int .u8 160), .lit (.int .u8 191)], .agg [.lit (.int .u8 128), .lit (.int .u8 159)], .agg [.lit (.int .u8 144), .lit (.int .u8 191)], .agg [.lit (.int .u8 128), .lit (.int .u8 143)], .agg [.lit (.int .u8 0), .lit (.int .u8 0)], .agg [.lit (.int .u8 0), .lit (.int .u8 0)], .agg [.lit (.int .u8 0), .lit (.int .u8 0)], .agg [.lit (.int .u8 0), .lit (.int .u8 0)], .agg [.lit (.int .u8 0), .lit (.int .u8 0)], .agg [.lit (.int .u8 0), .lit (.int .u8 0)], .agg [.lit (.int .u8 0), .lit (.int .u8 0)], .agg [.lit (.int .u8 0), .lit (.int .u8 0)], .agg [.lit (.int .u8 0), .lit (.int .u8 0)], .agg [.lit (.int .u8 0), .lit (.int .u8 0)], .agg [.lit (.int .u8 0), .lit (.int .u8 0)]]
/-- One of Go's own tables, pinned by name: the form's constant. -/
def laid_unicode_utf8_first : DataW Unit := Go.Pinned.utf8First

/-- 'rookerylaw01.BitsRunes': WHATEVER THE INPUT: true; the input reads as it did. -/
def bitsRunesSpec : ChangeSpec := { name := "bitsRunes", fn := fun _ => fun
  | [d] => { results := [.lit (.bool true)], args := [d] }
  | _ => none }
def bitsRunesRow : OpenClaim := { program := "ytkecmndppllijaadoor", sum := "e619c8f09fdfcba2e225044f6a2c32d09fa58011d2d25970b72d07ca0a56b18b", func := "rookery/rookerylaw01.BitsRunes", spec := "bitsRunes", named := ["unicode/utf8.first", "unicode/utf8.acceptRanges"], apart := false, laid := [("unicode/utf8.acceptRanges", laid_unicode_utf8_acceptRanges), ("unicode/utf8.first", laid_unicode_utf8_first)] }
def BitsRunesSaid : Prop := bitsRunesRow.holds Tryd.pinned (OpenSpec.ofChange bitsRunesSpec)

/-- ITS FALSE NEIGHBOUR: 'it returns false'. Refute it at one input. -/
def bitsRunesWrong : ChangeSpec := { name := "bitsRunes", fn := fun _ => fun
  | [d] => { results := [.lit (.bool false)], args := [d] }
  | _ => none }
def BitsRunesWrongFalsely : Prop := bitsRunesRow.holds Tryd.pinned (OpenSpec.ofChange bitsRunesWrong)

/-- 'rookerylaw01.BitsOrder': WHATEVER THE INPUT: true; the input reads as it did. -/
def bitsOrderSpec : ChangeSpec := { name := "bitsOrder", fn := fun _ => fun
  | [d1, d2] => { results := [.lit (.bool true)], args := [d1, d2] }
  | _ => none }
def bitsOrderRow : OpenClaim := { program := "ytkecmndppllijaadoor", sum := "e619c8f09fdfcba2e225044f6a2c32d09fa58011d2d25970b72d07ca0a56b18b", func := "rookery/rookerylaw01.BitsOrder", spec := "bitsOrder", named := ["unicode/utf8.first", "unicode/utf8.acceptRanges"], apart := false, laid := [("unicode/utf8.acceptRanges", laid_unicode_utf8_acceptRanges), ("unicode/utf8.first", laid_unicode_utf8_first)] }
def BitsOrderSaid : Prop := bitsOrderRow.holds Tryd.pinned (OpenSpec.ofChange bitsOrderSpec)

/-- ITS FALSE NEIGHBOUR: 'it returns false'. Refute it at one input. -/
def bitsOrderWrong : ChangeSpec := { name := "bitsOrder", fn := fun _ => fun
  | [d1, d2] => { results := [.lit (.bool false)], args := [d1, d2] }
  | _ => none }
def BitsOrderWrongFalsely : Prop := bitsOrderRow.holds Tryd.pinned (OpenSpec.ofChange bitsOrderWrong)

/-- 'rookerylaw01.BitsVars': WHATEVER THE INPUT: true; the input reads as it did. -/
def bitsVarsSpec : ChangeSpec := { name := "bitsVars", fn := fun _ => fun
  | [d1, d2] => { results := [.lit (.bool true)], args := [d1, d2] }
  | _ => none }
def bitsVarsRow : OpenClaim := { program := "ytkecmndppllijaadoor", sum := "e619c8f09fdfcba2e225044f6a2c32d09fa58011d2d25970b72d07ca0a56b18b", func := "rookery/rookerylaw01.BitsVars", spec := "bitsVars", named := ["unicode/utf8.first", "unicode/utf8.acceptRanges"], apart := false, laid := [("unicode/utf8.acceptRanges", laid_unicode_utf8_acceptRanges), ("unicode/utf8.first", laid_unicode_utf8_first)] }
def BitsVarsSaid : Prop := bitsVarsRow.holds Tryd.pinned (OpenSpec.ofChange bitsVarsSpec)

/-- ITS FALSE NEIGHBOUR: 'it returns false'. Refute it at one input. -/
def bitsVarsWrong : ChangeSpec := { name := "bitsVars", fn := fun _ => fun
  | [d1, d2] => { results := [.lit (.bool false)], args := [d1, d2] }
  | _ => none }
def BitsVarsWrongFalsely : Prop := bitsVarsRow.holds Tryd.pinned (OpenSpec.ofChange bitsVarsWrong)

/-- 'rookerylaw01.BitsFixes': WHATEVER THE INPUT: true; the input reads as it did. -/
def bitsFixesSpec : ChangeSpec := { name := "bitsFixes", fn := fun _ => fun
  | [d1, d2, d3] => { results := [.lit (.bool true)], args := [d1, d2, d3] }
  | _ => none }
def bitsFixesRow : OpenClaim := { program := "ytkecmndppllijaadoor", sum := "e619c8f09fdfcba2e225044f6a2c32d09fa58011d2d25970b72d07ca0a56b18b", func := "rookery/rookerylaw01.BitsFixes", spec := "bitsFixes", named := ["unicode/utf8.first", "unicode/utf8.acceptRanges"], apart := false, laid := [("unicode/utf8.acceptRanges", laid_unicode_utf8_acceptRanges), ("unicode/utf8.first", laid_unicode_utf8_first)] }
def BitsFixesSaid : Prop := bitsFixesRow.holds Tryd.pinned (OpenSpec.ofChange bitsFixesSpec)

/-- ITS FALSE NEIGHBOUR: 'it returns false'. Refute it at one input. -/
def bitsFixesWrong : ChangeSpec := { name := "bitsFixes", fn := fun _ => fun
  | [d1, d2, d3] => { results := [.lit (.bool false)], args := [d1, d2, d3] }
  | _ => none }
def BitsFixesWrongFalsely : Prop := bitsFixesRow.holds Tryd.pinned (OpenSpec.ofChange bitsFixesWrong)

/-- 'rookerylaw01.BitsTexts': WHATEVER THE INPUT: true; the input reads as it did. -/
def bitsTextsSpec : ChangeSpec := { name := "bitsTexts", fn := fun _ => fun
  | [d1, d2] => { results := [.lit (.bool true)], args := [d1, d2] }
  | _ => none }
def bitsTextsRow : OpenClaim := { program := "ytkecmndppllijaadoor", sum := "e619c8f09fdfcba2e225044f6a2c32d09fa58011d2d25970b72d07ca0a56b18b", func := "rookery/rookerylaw01.BitsTexts", spec := "bitsTexts", named := ["unicode/utf8.first", "unicode/utf8.acceptRanges"], apart := false, laid := [("unicode/utf8.acceptRanges", laid_unicode_utf8_acceptRanges), ("unicode/utf8.first", laid_unicode_utf8_first)] }
def BitsTextsSaid : Prop := bitsTextsRow.holds Tryd.pinned (OpenSpec.ofChange bitsTextsSpec)

/-- ITS FALSE NEIGHBOUR: 'it returns false'. Refute it at one input. -/
def bitsTextsWrong : ChangeSpec := { name := "bitsTexts", fn := fun _ => fun
  | [d1, d2] => { results := [.lit (.bool false)], args := [d1, d2] }
  | _ => none }
def BitsTextsWrongFalsely : Prop := bitsTextsRow.holds Tryd.pinned (OpenSpec.ofChange bitsTextsWrong)

/-- 'rookerylaw01.BitsApart': WHATEVER THE INPUT: true; the input reads as it did. -/
def bitsApartSpec : ChangeSpec := { name := "bitsApart", fn := fun _ => fun
  | [d1, d2, d3] => { results := [.lit (.bool true)], args := [d1, d2, d3] }
  | _ => none }
def bitsApartRow : OpenClaim := { program := "ytkecmndppllijaadoor", sum := "e619c8f09fdfcba2e225044f6a2c32d09fa58011d2d25970b72d07ca0a56b18b", func := "rookery/rookerylaw01.BitsApart", spec := "bitsApart", named := ["unicode/utf8.first", "unicode/utf8.acceptRanges"], apart := false, laid := [("unicode/utf8.acceptRanges", laid_unicode_utf8_acceptRanges), ("unicode/utf8.first", laid_unicode_utf8_first)] }
def BitsApartSaid : Prop := bitsApartRow.holds Tryd.pinned (OpenSpec.ofChange bitsApartSpec)

/-- ITS FALSE NEIGHBOUR: 'it returns false'. Refute it at one input. -/
def bitsApartWrong : ChangeSpec := { name := "bitsApart", fn := fun _ => fun
  | [d1, d2, d3] => { results := [.lit (.bool false)], args := [d1, d2, d3] }
  | _ => none }
def BitsApartWrongFalsely : Prop := bitsApartRow.holds Tryd.pinned (OpenSpec.ofChange bitsApartWrong)

/- THE SECOND FORM. 'bulk': how many values and letters a reading holds, each counted each time it is reached (what is shared counts as often as it is met; a slice's spare places count too). A statement '..UptoSaid' is the law's where the arguments, and the package variables that the reading takes, are together of bulk at most 1048576: NARROWER than '..Said'. Prove '..Said' where nothing that the law and all that it calls make is longer than what came in: it says more and counts as full. Else prove '..UptoSaid'. A law counts once. -/
mutual
def uptoBulk {H : Type} : DataW H → Nat
  | .lit (.string bytes) => bytes.length + 1
  | .lit _ => 1
  | .nil => 1
  | .ptr d => uptoBulk d + 1
  | .slice elems spare => uptoBulkAll elems + uptoBulkAll spare + 1
  | .agg parts => uptoBulkAll parts + 1
  | .iface _ d => uptoBulk d + 1
  | .map entries => uptoBulkEntries entries + 1
  | .held _ => 1
def uptoBulkAll {H : Type} : List (DataW H) → Nat
  | [] => 0
  | d :: r => uptoBulk d + uptoBulkAll r
def uptoBulkEntries {H : Type} : List (Lit × DataW H) → Nat
  | [] => 0
  | x :: r => uptoBulkEntry x + uptoBulkEntries r
def uptoBulkEntry {H : Type} : Lit × DataW H → Nat
  | (.string bytes, d) => bytes.length + uptoBulk d + 1
  | (_, d) => uptoBulk d + 1
 end
def uptoSmall : (H : Type) → List (DataW H) → Bool := fun _ ds => decide (uptoBulkAll ds ≤ 1048576)
def OpenSpec.upto (s : _root_.Go.ChangeSpec) : _root_.Go.OpenSpec := { _root_.Go.OpenSpec.ofChange s with cond := some uptoSmall }

/-- 'rookerylaw01.BitsRunes', WHERE WHAT IT READS IS OF BULK AT MOST 1048576: true; the input reads as it did. -/
def bitsRunesUptoRow : OpenClaim := { program := "ytkecmndppllijaadoor", sum := "e619c8f09fdfcba2e225044f6a2c32d09fa58011d2d25970b72d07ca0a56b18b", func := "rookery/rookerylaw01.BitsRunes", spec := "bitsRunes", named := ["unicode/utf8.first", "unicode/utf8.acceptRanges"], apart := false, laid := [("unicode/utf8.acceptRanges", laid_unicode_utf8_acceptRanges), ("unicode/utf8.first", laid_unicode_utf8_first)], narrowed := true }
def BitsRunesUptoSaid : Prop := bitsRunesUptoRow.holds Tryd.pinned (OpenSpec.upto bitsRunesSpec)

/-- 'rookerylaw01.BitsOrder', WHERE WHAT IT READS IS OF BULK AT MOST 1048576: true; the input reads as it did. -/
def bitsOrderUptoRow : OpenClaim := { program := "ytkecmndppllijaadoor", sum := "e619c8f09fdfcba2e225044f6a2c32d09fa58011d2d25970b72d07ca0a56b18b", func := "rookery/rookerylaw01.BitsOrder", spec := "bitsOrder", named := ["unicode/utf8.first", "unicode/utf8.acceptRanges"], apart := false, laid := [("unicode/utf8.acceptRanges", laid_unicode_utf8_acceptRanges), ("unicode/utf8.first", laid_unicode_utf8_first)], narrowed := true }
def BitsOrderUptoSaid : Prop := bitsOrderUptoRow.holds Tryd.pinned (OpenSpec.upto bitsOrderSpec)

/-- 'rookerylaw01.BitsVars', WHERE WHAT IT READS IS OF BULK AT MOST 1048576: true; the input reads as it did. -/
def bitsVarsUptoRow : OpenClaim := { program := "ytkecmndppllijaadoor", sum := "e619c8f09fdfcba2e225044f6a2c32d09fa58011d2d25970b72d07ca0a56b18b", func := "rookery/rookerylaw01.BitsVars", spec := "bitsVars", named := ["unicode/utf8.first", "unicode/utf8.acceptRanges"], apart := false, laid := [("unicode/utf8.acceptRanges", laid_unicode_utf8_acceptRanges), ("unicode/utf8.first", laid_unicode_utf8_first)], narrowed := true }
def BitsVarsUptoSaid : Prop := bitsVarsUptoRow.holds Tryd.pinned (OpenSpec.upto bitsVarsSpec)

/-- 'rookerylaw01.BitsFixes', WHERE WHAT IT READS IS OF BULK AT MOST 1048576: true; the input reads as it did. -/
def bitsFixesUptoRow : OpenClaim := { program := "ytkecmndppllijaadoor", sum := "e619c8f09fdfcba2e225044f6a2c32d09fa58011d2d25970b72d07ca0a56b18b", func := "rookery/rookerylaw01.BitsFixes", spec := "bitsFixes", named := ["unicode/utf8.first", "unicode/utf8.acceptRanges"], apart := false, laid := [("unicode/utf8.acceptRanges", laid_unicode_utf8_acceptRanges), ("unicode/utf8.first", laid_unicode_utf8_first)], narrowed := true }
def BitsFixesUptoSaid : Prop := bitsFixesUptoRow.holds Tryd.pinned (OpenSpec.upto bitsFixesSpec)

/-- 'rookerylaw01.BitsTexts', WHERE WHAT IT READS IS OF BULK AT MOST 1048576: true; the input reads as it did. -/
def bitsTextsUptoRow : OpenClaim := { program := "ytkecmndppllijaadoor", sum := "e619c8f09fdfcba2e225044f6a2c32d09fa58011d2d25970b72d07ca0a56b18b", func := "rookery/rookerylaw01.BitsTexts", spec := "bitsTexts", named := ["unicode/utf8.first", "unicode/utf8.acceptRanges"], apart := false, laid := [("unicode/utf8.acceptRanges", laid_unicode_utf8_acceptRanges), ("unicode/utf8.first", laid_unicode_utf8_first)], narrowed := true }
def BitsTextsUptoSaid : Prop := bitsTextsUptoRow.holds Tryd.pinned (OpenSpec.upto bitsTextsSpec)

/-- 'rookerylaw01.BitsApart', WHERE WHAT IT READS IS OF BULK AT MOST 1048576: true; the input reads as it did. -/
def bitsApartUptoRow : OpenClaim := { program := "ytkecmndppllijaadoor", sum := "e619c8f09fdfcba2e225044f6a2c32d09fa58011d2d25970b72d07ca0a56b18b", func := "rookery/rookerylaw01.BitsApart", spec := "bitsApart", named := ["unicode/utf8.first", "unicode/utf8.acceptRanges"], apart := false, laid := [("unicode/utf8.acceptRanges", laid_unicode_utf8_acceptRanges), ("unicode/utf8.first", laid_unicode_utf8_first)], narrowed := true }
def BitsApartUptoSaid : Prop := bitsApartUptoRow.holds Tryd.pinned (OpenSpec.upto bitsApartSpec)

end Rows
end Go.Proofs.YtkecmndppllijaaDoor

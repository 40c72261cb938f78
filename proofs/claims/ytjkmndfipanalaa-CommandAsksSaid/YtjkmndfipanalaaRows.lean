/-
  No cell of these rows narrows 'for every input' (looked for: loops, veiled, ifaces, maps, wideKeys, modest, calm, conditions, laid).
  DERIVED. THE GIVEN ROWS OF THIS SEAT. 9 by the template 'for every input the law returns true; each argument reads behind the call as it read before'; 0 by the template 'total and deterministic' (their statements: YtjkmndfipanalaaTotals.lean).
  GIVEN WITH THE SEED: the statements are not yours to turn. If you find one false, say at which input.
  Laid BY PROGRAM, IN A SANDBOX (cutbox-rows.mjs): the forced cells as the released guide's own fill.sh prints them over the translation d90bb8829994de7c… (all of the seat's roots in one cut). By AI agents, Wed Nov 11 2026. No macro, syntax, notation, axiom, sorry.
-/
import Derived.Test.YtjkmndfipanalaaChecked
import GoSem.Claim
import GoSem.ClaimJoined
import GoSem.ClaimMapViews
import Derived.JoinedTies
import Derived.KernelRfl
namespace Go.Proofs.Ytjkmndfipanalaa
/- THE CELL 'sum', in the pinned program and in every row, IS THE sha256 OF THE DUMP (.gsa) THAT YtjkmndfipanalaaProg.lean LOADS. Nothing in Lean hashes anything: it is a label: what it is worth is what the hold of that sum in a sandbox is worth. -/
noncomputable def Try.pinned : Pinned := { name := "ytjkmndfipanalaa", sum := "d90bb8829994de7c39bf7a7d1d9ed6820611dc6023ab0789ca2a1304736c9ef9", checked := Try.checked }
namespace Rows
def none {H : Type} : Left H := { results := [], args := [] }

/-- 'rookerylaw12.CommandPuts': WHATEVER THE INPUT: true; the input reads as it did. -/
def commandPutsSpec : ChangeSpec := { name := "commandPuts", fn := fun _ => fun
  | [d] => { results := [.lit (.bool true)], args := [d] }
  | _ => none }
def commandPutsRow : OpenClaim := { program := "ytjkmndfipanalaa", sum := "d90bb8829994de7c39bf7a7d1d9ed6820611dc6023ab0789ca2a1304736c9ef9", func := "rookery/rookerylaw12.CommandPuts", spec := "commandPuts", inPlace := ["internal/abi.NoEscape"], recurses := true, apart := false }
def CommandPutsSaid : Prop := commandPutsRow.holds Try.pinned (OpenSpec.ofChange commandPutsSpec)

/-- ITS FALSE NEIGHBOUR: 'it returns false'. Refute it at one input. -/
def commandPutsWrong : ChangeSpec := { name := "commandPuts", fn := fun _ => fun
  | [d] => { results := [.lit (.bool false)], args := [d] }
  | _ => none }
def CommandPutsWrongFalsely : Prop := commandPutsRow.holds Try.pinned (OpenSpec.ofChange commandPutsWrong)

/-- 'rookerylaw12.CommandReads': WHATEVER THE INPUT: true; the input reads as it did. -/
def commandReadsSpec : ChangeSpec := { name := "commandReads", fn := fun _ => fun
  | [d] => { results := [.lit (.bool true)], args := [d] }
  | _ => none }
def commandReadsRow : OpenClaim := { program := "ytjkmndfipanalaa", sum := "d90bb8829994de7c39bf7a7d1d9ed6820611dc6023ab0789ca2a1304736c9ef9", func := "rookery/rookerylaw12.CommandReads", spec := "commandReads", inPlace := ["internal/abi.NoEscape"], recurses := true, apart := false }
def CommandReadsSaid : Prop := commandReadsRow.holds Try.pinned (OpenSpec.ofChange commandReadsSpec)

/-- ITS FALSE NEIGHBOUR: 'it returns false'. Refute it at one input. -/
def commandReadsWrong : ChangeSpec := { name := "commandReads", fn := fun _ => fun
  | [d] => { results := [.lit (.bool false)], args := [d] }
  | _ => none }
def CommandReadsWrongFalsely : Prop := commandReadsRow.holds Try.pinned (OpenSpec.ofChange commandReadsWrong)

/-- 'rookerylaw12.CommandCuts': WHATEVER THE INPUT: true; the input reads as it did. -/
def commandCutsSpec : ChangeSpec := { name := "commandCuts", fn := fun _ => fun
  | [d1, d2, d3] => { results := [.lit (.bool true)], args := [d1, d2, d3] }
  | _ => none }
def commandCutsRow : OpenClaim := { program := "ytjkmndfipanalaa", sum := "d90bb8829994de7c39bf7a7d1d9ed6820611dc6023ab0789ca2a1304736c9ef9", func := "rookery/rookerylaw12.CommandCuts", spec := "commandCuts", inPlace := ["internal/abi.NoEscape"], recurses := true, apart := false }
def CommandCutsSaid : Prop := commandCutsRow.holds Try.pinned (OpenSpec.ofChange commandCutsSpec)

/-- ITS FALSE NEIGHBOUR: 'it returns false'. Refute it at one input. -/
def commandCutsWrong : ChangeSpec := { name := "commandCuts", fn := fun _ => fun
  | [d1, d2, d3] => { results := [.lit (.bool false)], args := [d1, d2, d3] }
  | _ => none }
def CommandCutsWrongFalsely : Prop := commandCutsRow.holds Try.pinned (OpenSpec.ofChange commandCutsWrong)

/-- 'rookerylaw12.CommandApart': WHATEVER THE INPUT: true; the input reads as it did. -/
def commandApartSpec : ChangeSpec := { name := "commandApart", fn := fun _ => fun
  | [d1, d2] => { results := [.lit (.bool true)], args := [d1, d2] }
  | _ => none }
def commandApartRow : OpenClaim := { program := "ytjkmndfipanalaa", sum := "d90bb8829994de7c39bf7a7d1d9ed6820611dc6023ab0789ca2a1304736c9ef9", func := "rookery/rookerylaw12.CommandApart", spec := "commandApart", inPlace := ["internal/abi.NoEscape"], recurses := true, apart := false }
def CommandApartSaid : Prop := commandApartRow.holds Try.pinned (OpenSpec.ofChange commandApartSpec)

/-- ITS FALSE NEIGHBOUR: 'it returns false'. Refute it at one input. -/
def commandApartWrong : ChangeSpec := { name := "commandApart", fn := fun _ => fun
  | [d1, d2] => { results := [.lit (.bool false)], args := [d1, d2] }
  | _ => none }
def CommandApartWrongFalsely : Prop := commandApartRow.holds Try.pinned (OpenSpec.ofChange commandApartWrong)

/-- 'rookerylaw12.CommandMessages': WHATEVER THE INPUT: true; the input reads as it did. -/
def commandMessagesSpec : ChangeSpec := { name := "commandMessages", fn := fun _ => fun
  | [d] => { results := [.lit (.bool true)], args := [d] }
  | _ => none }
def commandMessagesRow : OpenClaim := { program := "ytjkmndfipanalaa", sum := "d90bb8829994de7c39bf7a7d1d9ed6820611dc6023ab0789ca2a1304736c9ef9", func := "rookery/rookerylaw12.CommandMessages", spec := "commandMessages", inPlace := ["internal/abi.NoEscape"], recurses := true, apart := false }
def CommandMessagesSaid : Prop := commandMessagesRow.holds Try.pinned (OpenSpec.ofChange commandMessagesSpec)

/-- ITS FALSE NEIGHBOUR: 'it returns false'. Refute it at one input. -/
def commandMessagesWrong : ChangeSpec := { name := "commandMessages", fn := fun _ => fun
  | [d] => { results := [.lit (.bool false)], args := [d] }
  | _ => none }
def CommandMessagesWrongFalsely : Prop := commandMessagesRow.holds Try.pinned (OpenSpec.ofChange commandMessagesWrong)

/-- 'rookerylaw12.CommandHears': WHATEVER THE INPUT: true; the input reads as it did. -/
def commandHearsSpec : ChangeSpec := { name := "commandHears", fn := fun _ => fun
  | [d] => { results := [.lit (.bool true)], args := [d] }
  | _ => none }
def commandHearsRow : OpenClaim := { program := "ytjkmndfipanalaa", sum := "d90bb8829994de7c39bf7a7d1d9ed6820611dc6023ab0789ca2a1304736c9ef9", func := "rookery/rookerylaw12.CommandHears", spec := "commandHears", inPlace := ["internal/abi.NoEscape"], recurses := true, apart := false }
def CommandHearsSaid : Prop := commandHearsRow.holds Try.pinned (OpenSpec.ofChange commandHearsSpec)

/-- ITS FALSE NEIGHBOUR: 'it returns false'. Refute it at one input. -/
def commandHearsWrong : ChangeSpec := { name := "commandHears", fn := fun _ => fun
  | [d] => { results := [.lit (.bool false)], args := [d] }
  | _ => none }
def CommandHearsWrongFalsely : Prop := commandHearsRow.holds Try.pinned (OpenSpec.ofChange commandHearsWrong)

/-- 'rookerylaw12.CommandTells': WHATEVER THE INPUT: true; the input reads as it did. -/
def commandTellsSpec : ChangeSpec := { name := "commandTells", fn := fun _ => fun
  | [d] => { results := [.lit (.bool true)], args := [d] }
  | _ => none }
def commandTellsRow : OpenClaim := { program := "ytjkmndfipanalaa", sum := "d90bb8829994de7c39bf7a7d1d9ed6820611dc6023ab0789ca2a1304736c9ef9", func := "rookery/rookerylaw12.CommandTells", spec := "commandTells", inPlace := ["internal/abi.NoEscape"], recurses := true, apart := false }
def CommandTellsSaid : Prop := commandTellsRow.holds Try.pinned (OpenSpec.ofChange commandTellsSpec)

/-- ITS FALSE NEIGHBOUR: 'it returns false'. Refute it at one input. -/
def commandTellsWrong : ChangeSpec := { name := "commandTells", fn := fun _ => fun
  | [d] => { results := [.lit (.bool false)], args := [d] }
  | _ => none }
def CommandTellsWrongFalsely : Prop := commandTellsRow.holds Try.pinned (OpenSpec.ofChange commandTellsWrong)

/-- 'rookerylaw12.CommandAsks': WHATEVER THE INPUT: true; the input reads as it did. -/
def commandAsksSpec : ChangeSpec := { name := "commandAsks", fn := fun _ => fun
  | [d1, d2, d3] => { results := [.lit (.bool true)], args := [d1, d2, d3] }
  | _ => none }
def commandAsksRow : OpenClaim := { program := "ytjkmndfipanalaa", sum := "d90bb8829994de7c39bf7a7d1d9ed6820611dc6023ab0789ca2a1304736c9ef9", func := "rookery/rookerylaw12.CommandAsks", spec := "commandAsks", inPlace := ["internal/abi.NoEscape"], recurses := true, apart := false }
def CommandAsksSaid : Prop := commandAsksRow.holds Try.pinned (OpenSpec.ofChange commandAsksSpec)

/-- ITS FALSE NEIGHBOUR: 'it returns false'. Refute it at one input. -/
def commandAsksWrong : ChangeSpec := { name := "commandAsks", fn := fun _ => fun
  | [d1, d2, d3] => { results := [.lit (.bool false)], args := [d1, d2, d3] }
  | _ => none }
def CommandAsksWrongFalsely : Prop := commandAsksRow.holds Try.pinned (OpenSpec.ofChange commandAsksWrong)

/-- 'rookerylaw12.CommandKinds': WHATEVER THE INPUT: true; the input reads as it did. -/
def commandKindsSpec : ChangeSpec := { name := "commandKinds", fn := fun _ => fun
  | [d] => { results := [.lit (.bool true)], args := [d] }
  | _ => none }
def commandKindsRow : OpenClaim := { program := "ytjkmndfipanalaa", sum := "d90bb8829994de7c39bf7a7d1d9ed6820611dc6023ab0789ca2a1304736c9ef9", func := "rookery/rookerylaw12.CommandKinds", spec := "commandKinds", inPlace := ["internal/abi.NoEscape"], recurses := true, apart := false }
def CommandKindsSaid : Prop := commandKindsRow.holds Try.pinned (OpenSpec.ofChange commandKindsSpec)

/-- ITS FALSE NEIGHBOUR: 'it returns false'. Refute it at one input. -/
def commandKindsWrong : ChangeSpec := { name := "commandKinds", fn := fun _ => fun
  | [d] => { results := [.lit (.bool false)], args := [d] }
  | _ => none }
def CommandKindsWrongFalsely : Prop := commandKindsRow.holds Try.pinned (OpenSpec.ofChange commandKindsWrong)

/- THE SECOND FORM. 'bulk': how many values and letters a reading holds, each counted each time it is reached (what is shared counts as often as it is met; a slice's spare places count too). A statement '..UptoSaid' is the law's where the arguments, and the package variables that the reading takes, are together of bulk at most 1048576: NARROWER than '..Said'. Prove '..Said' where nothing that the law and all that it calls make is longer than what came in: it says more and counts as full. Else prove '..UptoSaid'. A law counts once. -/
mutual
def uptoBulk {H : Type} : DataW H → Nat
  | .lit (.string bytes) => bytes.length + 1
  | .lit _ => 1
  | .nil => 1
  | .ptr d => uptoBulk d + 1
  | .slice elems spare => uptoBulkAll elems + uptoBulkAll spare + 1
  | .agg parts => uptoBulkAll parts + 1
  | .iface _ d => uptoBulk d + 1
  | .map entries => uptoBulkEntries entries + 1
  | .held _ => 1
def uptoBulkAll {H : Type} : List (DataW H) → Nat
  | [] => 0
  | d :: r => uptoBulk d + uptoBulkAll r
def uptoBulkEntries {H : Type} : List (Lit × DataW H) → Nat
  | [] => 0
  | x :: r => uptoBulkEntry x + uptoBulkEntries r
def uptoBulkEntry {H : Type} : Lit × DataW H → Nat
  | (.string bytes, d) => bytes.length + uptoBulk d + 1
  | (_, d) => uptoBulk d + 1
 end
def uptoSmall : (H : Type) → List (DataW H) → Bool := fun _ ds => decide (uptoBulkAll ds ≤ 1048576)
def OpenSpec.upto (s : _root_.Go.ChangeSpec) : _root_.Go.OpenSpec := { _root_.Go.OpenSpec.ofChange s with cond := some uptoSmall }

/-- 'rookerylaw12.CommandPuts', WHERE WHAT IT READS IS OF BULK AT MOST 1048576: true; the input reads as it did. -/
def commandPutsUptoRow : OpenClaim := { program := "ytjkmndfipanalaa", sum := "d90bb8829994de7c39bf7a7d1d9ed6820611dc6023ab0789ca2a1304736c9ef9", func := "rookery/rookerylaw12.CommandPuts", spec := "commandPuts", inPlace := ["internal/abi.NoEscape"], recurses := true, apart := false, narrowed := true }
def CommandPutsUptoSaid : Prop := commandPutsUptoRow.holds Try.pinned (OpenSpec.upto commandPutsSpec)

/-- 'rookerylaw12.CommandReads', WHERE WHAT IT READS IS OF BULK AT MOST 1048576: true; the input reads as it did. -/
def commandReadsUptoRow : OpenClaim := { program := "ytjkmndfipanalaa", sum := "d90bb8829994de7c39bf7a7d1d9ed6820611dc6023ab0789ca2a1304736c9ef9", func := "rookery/rookerylaw12.CommandReads", spec := "commandReads", inPlace := ["internal/abi.NoEscape"], recurses := true, apart := false, narrowed := true }
def CommandReadsUptoSaid : Prop := commandReadsUptoRow.holds Try.pinned (OpenSpec.upto commandReadsSpec)

/-- 'rookerylaw12.CommandCuts', WHERE WHAT IT READS IS OF BULK AT MOST 1048576: true; the input reads as it did. -/
def commandCutsUptoRow : OpenClaim := { program := "ytjkmndfipanalaa", sum := "d90bb8829994de7c39bf7a7d1d9ed6820611dc6023ab0789ca2a1304736c9ef9", func := "rookery/rookerylaw12.CommandCuts", spec := "commandCuts", inPlace := ["internal/abi.NoEscape"], recurses := true, apart := false, narrowed := true }
def CommandCutsUptoSaid : Prop := commandCutsUptoRow.holds Try.pinned (OpenSpec.upto commandCutsSpec)

/-- 'rookerylaw12.CommandApart', WHERE WHAT IT READS IS OF BULK AT MOST 1048576: true; the input reads as it did. -/
def commandApartUptoRow : OpenClaim := { program := "ytjkmndfipanalaa", sum := "d90bb8829994de7c39bf7a7d1d9ed6820611dc6023ab0789ca2a1304736c9ef9", func := "rookery/rookerylaw12.CommandApart", spec := "commandApart", inPlace := ["internal/abi.NoEscape"], recurses := true, apart := false, narrowed := true }
def CommandApartUptoSaid : Prop := commandApartUptoRow.holds Try.pinned (OpenSpec.upto commandApartSpec)

/-- 'rookerylaw12.CommandMessages', WHERE WHAT IT READS IS OF BULK AT MOST 1048576: true; the input reads as it did. -/
def commandMessagesUptoRow : OpenClaim := { program := "ytjkmndfipanalaa", sum := "d90bb8829994de7c39bf7a7d1d9ed6820611dc6023ab0789ca2a1304736c9ef9", func := "rookery/rookerylaw12.CommandMessages", spec := "commandMessages", inPlace := ["internal/abi.NoEscape"], recurses := true, apart := false, narrowed := true }
def CommandMessagesUptoSaid : Prop := commandMessagesUptoRow.holds Try.pinned (OpenSpec.upto commandMessagesSpec)

/-- 'rookerylaw12.CommandHears', WHERE WHAT IT READS IS OF BULK AT MOST 1048576: true; the input reads as it did. -/
def commandHearsUptoRow : OpenClaim := { program := "ytjkmndfipanalaa", sum := "d90bb8829994de7c39bf7a7d1d9ed6820611dc6023ab0789ca2a1304736c9ef9", func := "rookery/rookerylaw12.CommandHears", spec := "commandHears", inPlace := ["internal/abi.NoEscape"], recurses := true, apart := false, narrowed := true }
def CommandHearsUptoSaid : Prop := commandHearsUptoRow.holds Try.pinned (OpenSpec.upto commandHearsSpec)

/-- 'rookerylaw12.CommandTells', WHERE WHAT IT READS IS OF BULK AT MOST 1048576: true; the input reads as it did. -/
def commandTellsUptoRow : OpenClaim := { program := "ytjkmndfipanalaa", sum := "d90bb8829994de7c39bf7a7d1d9ed6820611dc6023ab0789ca2a1304736c9ef9", func := "rookery/rookerylaw12.CommandTells", spec := "commandTells", inPlace := ["internal/abi.NoEscape"], recurses := true, apart := false, narrowed := true }
def CommandTellsUptoSaid : Prop := commandTellsUptoRow.holds Try.pinned (OpenSpec.upto commandTellsSpec)

/-- 'rookerylaw12.CommandAsks', WHERE WHAT IT READS IS OF BULK AT MOST 1048576: true; the input reads as it did. -/
def commandAsksUptoRow : OpenClaim := { program := "ytjkmndfipanalaa", sum := "d90bb8829994de7c39bf7a7d1d9ed6820611dc6023ab0789ca2a1304736c9ef9", func := "rookery/rookerylaw12.CommandAsks", spec := "commandAsks", inPlace := ["internal/abi.NoEscape"], recurses := true, apart := false, narrowed := true }
def CommandAsksUptoSaid : Prop := commandAsksUptoRow.holds Try.pinned (OpenSpec.upto commandAsksSpec)

/-- 'rookerylaw12.CommandKinds', WHERE WHAT IT READS IS OF BULK AT MOST 1048576: true; the input reads as it did. -/
def commandKindsUptoRow : OpenClaim := { program := "ytjkmndfipanalaa", sum := "d90bb8829994de7c39bf7a7d1d9ed6820611dc6023ab0789ca2a1304736c9ef9", func := "rookery/rookerylaw12.CommandKinds", spec := "commandKinds", inPlace := ["internal/abi.NoEscape"], recurses := true, apart := false, narrowed := true }
def CommandKindsUptoSaid : Prop := commandKindsUptoRow.holds Try.pinned (OpenSpec.upto commandKindsSpec)

end Rows
end Go.Proofs.Ytjkmndfipanalaa

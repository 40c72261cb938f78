/-
  No cell of these rows narrows 'for every input' (looked for: loops, veiled, ifaces, maps, wideKeys, modest, calm, conditions, laid).
  DERIVED. THE GIVEN ROWS OF THIS SEAT. 6 by the template 'for every input the law returns true; each argument reads behind the call as it read before'; 0 by the template 'total and deterministic' (their statements: YtchomggcjicokaaTotals.lean).
  GIVEN WITH THE SEED: the statements are not yours to turn. If you find one false, say at which input.
  Laid BY PROGRAM, IN A SANDBOX (cutbox-rows.mjs): the forced cells as the released guide's own fill.sh prints them over the translation 710bc292169c125b… (all of the seat's roots in one cut). By AI agents, Wed Nov 11 2026. No macro, syntax, notation, axiom, sorry.
-/
import Derived.Test.YtchomggcjicokaaChecked
import GoSem.Claim
import GoSem.ClaimJoined
import GoSem.ClaimMapViews
import Derived.JoinedTies
import Derived.KernelRfl
namespace Go.Proofs.Ytchomggcjicokaa
/- THE CELL 'sum', in the pinned program and in every row, IS THE sha256 OF THE DUMP (.gsa) THAT YtchomggcjicokaaProg.lean LOADS. Nothing in Lean hashes anything: it is a label: what it is worth is what the hold of that sum in a sandbox is worth. -/
noncomputable def Try.pinned : Pinned := { name := "ytchomggcjicokaa", sum := "710bc292169c125b57bdbccc4a84466a86ed93b26fc11073b73a9b05a3017053", checked := Try.checked }
namespace Rows
def none {H : Type} : Left H := { results := [], args := [] }

/-- 'rookerylaw10.SlotsOwned': WHATEVER THE INPUT: true; the input reads as it did. -/
def slotsOwnedSpec : ChangeSpec := { name := "slotsOwned", fn := fun _ => fun
  | [d1, d2] => { results := [.lit (.bool true)], args := [d1, d2] }
  | _ => none }
def slotsOwnedRow : OpenClaim := { program := "ytchomggcjicokaa", sum := "710bc292169c125b57bdbccc4a84466a86ed93b26fc11073b73a9b05a3017053", func := "rookery/rookerylaw10.SlotsOwned", spec := "slotsOwned", apart := false }
def SlotsOwnedSaid : Prop := slotsOwnedRow.holds Try.pinned (OpenSpec.ofChange slotsOwnedSpec)

/-- ITS FALSE NEIGHBOUR: 'it returns false'. Refute it at one input. -/
def slotsOwnedWrong : ChangeSpec := { name := "slotsOwned", fn := fun _ => fun
  | [d1, d2] => { results := [.lit (.bool false)], args := [d1, d2] }
  | _ => none }
def SlotsOwnedWrongFalsely : Prop := slotsOwnedRow.holds Try.pinned (OpenSpec.ofChange slotsOwnedWrong)

/-- 'rookerylaw10.SlotsEven': WHATEVER THE INPUT: true; the input reads as it did. -/
def slotsEvenSpec : ChangeSpec := { name := "slotsEven", fn := fun _ => fun
  | [d] => { results := [.lit (.bool true)], args := [d] }
  | _ => none }
def slotsEvenRow : OpenClaim := { program := "ytchomggcjicokaa", sum := "710bc292169c125b57bdbccc4a84466a86ed93b26fc11073b73a9b05a3017053", func := "rookery/rookerylaw10.SlotsEven", spec := "slotsEven", apart := false }
def SlotsEvenSaid : Prop := slotsEvenRow.holds Try.pinned (OpenSpec.ofChange slotsEvenSpec)

/-- ITS FALSE NEIGHBOUR: 'it returns false'. Refute it at one input. -/
def slotsEvenWrong : ChangeSpec := { name := "slotsEven", fn := fun _ => fun
  | [d] => { results := [.lit (.bool false)], args := [d] }
  | _ => none }
def SlotsEvenWrongFalsely : Prop := slotsEvenRow.holds Try.pinned (OpenSpec.ofChange slotsEvenWrong)

/-- 'rookerylaw10.SlotsPlays': WHATEVER THE INPUT: true; the input reads as it did. -/
def slotsPlaysSpec : ChangeSpec := { name := "slotsPlays", fn := fun _ => fun
  | [d1, d2] => { results := [.lit (.bool true)], args := [d1, d2] }
  | _ => none }
def slotsPlaysRow : OpenClaim := { program := "ytchomggcjicokaa", sum := "710bc292169c125b57bdbccc4a84466a86ed93b26fc11073b73a9b05a3017053", func := "rookery/rookerylaw10.SlotsPlays", spec := "slotsPlays", inPlace := ["internal/abi.NoEscape"], apart := false }
def SlotsPlaysSaid : Prop := slotsPlaysRow.holds Try.pinned (OpenSpec.ofChange slotsPlaysSpec)

/-- ITS FALSE NEIGHBOUR: 'it returns false'. Refute it at one input. -/
def slotsPlaysWrong : ChangeSpec := { name := "slotsPlays", fn := fun _ => fun
  | [d1, d2] => { results := [.lit (.bool false)], args := [d1, d2] }
  | _ => none }
def SlotsPlaysWrongFalsely : Prop := slotsPlaysRow.holds Try.pinned (OpenSpec.ofChange slotsPlaysWrong)

/-- 'rookerylaw10.SlotsNobody': WHATEVER THE INPUT: true; the input reads as it did. -/
def slotsNobodySpec : ChangeSpec := { name := "slotsNobody", fn := fun _ => fun
  | [d1, d2] => { results := [.lit (.bool true)], args := [d1, d2] }
  | _ => none }
def slotsNobodyRow : OpenClaim := { program := "ytchomggcjicokaa", sum := "710bc292169c125b57bdbccc4a84466a86ed93b26fc11073b73a9b05a3017053", func := "rookery/rookerylaw10.SlotsNobody", spec := "slotsNobody", inPlace := ["internal/abi.NoEscape"], apart := false }
def SlotsNobodySaid : Prop := slotsNobodyRow.holds Try.pinned (OpenSpec.ofChange slotsNobodySpec)

/-- ITS FALSE NEIGHBOUR: 'it returns false'. Refute it at one input. -/
def slotsNobodyWrong : ChangeSpec := { name := "slotsNobody", fn := fun _ => fun
  | [d1, d2] => { results := [.lit (.bool false)], args := [d1, d2] }
  | _ => none }
def SlotsNobodyWrongFalsely : Prop := slotsNobodyRow.holds Try.pinned (OpenSpec.ofChange slotsNobodyWrong)

/-- 'rookerylaw10.SlotsReads': WHATEVER THE INPUT: true; the input reads as it did. -/
def slotsReadsSpec : ChangeSpec := { name := "slotsReads", fn := fun _ => fun
  | [d] => { results := [.lit (.bool true)], args := [d] }
  | _ => none }
def slotsReadsRow : OpenClaim := { program := "ytchomggcjicokaa", sum := "710bc292169c125b57bdbccc4a84466a86ed93b26fc11073b73a9b05a3017053", func := "rookery/rookerylaw10.SlotsReads", spec := "slotsReads", inPlace := ["internal/abi.NoEscape"], apart := false }
def SlotsReadsSaid : Prop := slotsReadsRow.holds Try.pinned (OpenSpec.ofChange slotsReadsSpec)

/-- ITS FALSE NEIGHBOUR: 'it returns false'. Refute it at one input. -/
def slotsReadsWrong : ChangeSpec := { name := "slotsReads", fn := fun _ => fun
  | [d] => { results := [.lit (.bool false)], args := [d] }
  | _ => none }
def SlotsReadsWrongFalsely : Prop := slotsReadsRow.holds Try.pinned (OpenSpec.ofChange slotsReadsWrong)

/-- 'rookerylaw10.SlotsBack': WHATEVER THE INPUT: true; the input reads as it did. -/
def slotsBackSpec : ChangeSpec := { name := "slotsBack", fn := fun _ => fun
  | [d1, d2, d3] => { results := [.lit (.bool true)], args := [d1, d2, d3] }
  | _ => none }
def slotsBackRow : OpenClaim := { program := "ytchomggcjicokaa", sum := "710bc292169c125b57bdbccc4a84466a86ed93b26fc11073b73a9b05a3017053", func := "rookery/rookerylaw10.SlotsBack", spec := "slotsBack", inPlace := ["internal/abi.NoEscape"], apart := false }
def SlotsBackSaid : Prop := slotsBackRow.holds Try.pinned (OpenSpec.ofChange slotsBackSpec)

/-- ITS FALSE NEIGHBOUR: 'it returns false'. Refute it at one input. -/
def slotsBackWrong : ChangeSpec := { name := "slotsBack", fn := fun _ => fun
  | [d1, d2, d3] => { results := [.lit (.bool false)], args := [d1, d2, d3] }
  | _ => none }
def SlotsBackWrongFalsely : Prop := slotsBackRow.holds Try.pinned (OpenSpec.ofChange slotsBackWrong)

/- THE SECOND FORM. 'bulk': how many values and letters a reading holds, each counted each time it is reached (what is shared counts as often as it is met; a slice's spare places count too). A statement '..UptoSaid' is the law's where the arguments, and the package variables that the reading takes, are together of bulk at most 1048576: NARROWER than '..Said'. Prove '..Said' where nothing that the law and all that it calls make is longer than what came in: it says more and counts as full. Else prove '..UptoSaid'. A law counts once. -/
mutual
def uptoBulk {H : Type} : DataW H → Nat
  | .lit (.string bytes) => bytes.length + 1
  | .lit _ => 1
  | .nil => 1
  | .ptr d => uptoBulk d + 1
  | .slice elems spare => uptoBulkAll elems + uptoBulkAll spare + 1
  | .agg parts => uptoBulkAll parts + 1
  | .iface _ d => uptoBulk d + 1
  | .map entries => uptoBulkEntries entries + 1
  | .held _ => 1
def uptoBulkAll {H : Type} : List (DataW H) → Nat
  | [] => 0
  | d :: r => uptoBulk d + uptoBulkAll r
def uptoBulkEntries {H : Type} : List (Lit × DataW H) → Nat
  | [] => 0
  | x :: r => uptoBulkEntry x + uptoBulkEntries r
def uptoBulkEntry {H : Type} : Lit × DataW H → Nat
  | (.string bytes, d) => bytes.length + uptoBulk d + 1
  | (_, d) => uptoBulk d + 1
 end
def uptoSmall : (H : Type) → List (DataW H) → Bool := fun _ ds => decide (uptoBulkAll ds ≤ 1048576)
def OpenSpec.upto (s : _root_.Go.ChangeSpec) : _root_.Go.OpenSpec := { _root_.Go.OpenSpec.ofChange s with cond := some uptoSmall }

/-- 'rookerylaw10.SlotsOwned', WHERE WHAT IT READS IS OF BULK AT MOST 1048576: true; the input reads as it did. -/
def slotsOwnedUptoRow : OpenClaim := { program := "ytchomggcjicokaa", sum := "710bc292169c125b57bdbccc4a84466a86ed93b26fc11073b73a9b05a3017053", func := "rookery/rookerylaw10.SlotsOwned", spec := "slotsOwned", apart := false, narrowed := true }
def SlotsOwnedUptoSaid : Prop := slotsOwnedUptoRow.holds Try.pinned (OpenSpec.upto slotsOwnedSpec)

/-- 'rookerylaw10.SlotsEven', WHERE WHAT IT READS IS OF BULK AT MOST 1048576: true; the input reads as it did. -/
def slotsEvenUptoRow : OpenClaim := { program := "ytchomggcjicokaa", sum := "710bc292169c125b57bdbccc4a84466a86ed93b26fc11073b73a9b05a3017053", func := "rookery/rookerylaw10.SlotsEven", spec := "slotsEven", apart := false, narrowed := true }
def SlotsEvenUptoSaid : Prop := slotsEvenUptoRow.holds Try.pinned (OpenSpec.upto slotsEvenSpec)

/-- 'rookerylaw10.SlotsPlays', WHERE WHAT IT READS IS OF BULK AT MOST 1048576: true; the input reads as it did. -/
def slotsPlaysUptoRow : OpenClaim := { program := "ytchomggcjicokaa", sum := "710bc292169c125b57bdbccc4a84466a86ed93b26fc11073b73a9b05a3017053", func := "rookery/rookerylaw10.SlotsPlays", spec := "slotsPlays", inPlace := ["internal/abi.NoEscape"], apart := false, narrowed := true }
def SlotsPlaysUptoSaid : Prop := slotsPlaysUptoRow.holds Try.pinned (OpenSpec.upto slotsPlaysSpec)

/-- 'rookerylaw10.SlotsNobody', WHERE WHAT IT READS IS OF BULK AT MOST 1048576: true; the input reads as it did. -/
def slotsNobodyUptoRow : OpenClaim := { program := "ytchomggcjicokaa", sum := "710bc292169c125b57bdbccc4a84466a86ed93b26fc11073b73a9b05a3017053", func := "rookery/rookerylaw10.SlotsNobody", spec := "slotsNobody", inPlace := ["internal/abi.NoEscape"], apart := false, narrowed := true }
def SlotsNobodyUptoSaid : Prop := slotsNobodyUptoRow.holds Try.pinned (OpenSpec.upto slotsNobodySpec)

/-- 'rookerylaw10.SlotsReads', WHERE WHAT IT READS IS OF BULK AT MOST 1048576: true; the input reads as it did. -/
def slotsReadsUptoRow : OpenClaim := { program := "ytchomggcjicokaa", sum := "710bc292169c125b57bdbccc4a84466a86ed93b26fc11073b73a9b05a3017053", func := "rookery/rookerylaw10.SlotsReads", spec := "slotsReads", inPlace := ["internal/abi.NoEscape"], apart := false, narrowed := true }
def SlotsReadsUptoSaid : Prop := slotsReadsUptoRow.holds Try.pinned (OpenSpec.upto slotsReadsSpec)

/-- 'rookerylaw10.SlotsBack', WHERE WHAT IT READS IS OF BULK AT MOST 1048576: true; the input reads as it did. -/
def slotsBackUptoRow : OpenClaim := { program := "ytchomggcjicokaa", sum := "710bc292169c125b57bdbccc4a84466a86ed93b26fc11073b73a9b05a3017053", func := "rookery/rookerylaw10.SlotsBack", spec := "slotsBack", inPlace := ["internal/abi.NoEscape"], apart := false, narrowed := true }
def SlotsBackUptoSaid : Prop := slotsBackUptoRow.holds Try.pinned (OpenSpec.upto slotsBackSpec)

end Rows
end Go.Proofs.Ytchomggcjicokaa

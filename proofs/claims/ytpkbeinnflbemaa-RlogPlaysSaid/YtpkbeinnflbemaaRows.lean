/-
  No cell of these rows narrows 'for every input' (looked for: loops, veiled, ifaces, maps, wideKeys, modest, calm, conditions, laid).
  DERIVED. THE GIVEN ROWS OF THIS SEAT. 5 by the template 'for every input the law returns true; each argument reads behind the call as it read before'; 0 by the template 'total and deterministic' (their statements: YtpkbeinnflbemaaTotals.lean).
  GIVEN WITH THE SEED: the statements are not yours to turn. If you find one false, say at which input.
  Laid BY PROGRAM, IN A SANDBOX (cutbox-rows.mjs): the forced cells as the released guide's own fill.sh prints them over the translation 0cae972701fde2af… (all of the seat's roots in one cut). By AI agents, Wed Nov 11 2026. No macro, syntax, notation, axiom, sorry.
-/
import Derived.Test.YtpkbeinnflbemaaChecked
import GoSem.Claim
import GoSem.ClaimJoined
import GoSem.ClaimMapViews
import Derived.JoinedTies
import Derived.KernelRfl
namespace Go.Proofs.Ytpkbeinnflbemaa
/- THE CELL 'sum', in the pinned program and in every row, IS THE sha256 OF THE DUMP (.gsa) THAT YtpkbeinnflbemaaProg.lean LOADS. Nothing in Lean hashes anything: it is a label: what it is worth is what the hold of that sum in a sandbox is worth. -/
noncomputable def Try.pinned : Pinned := { name := "ytpkbeinnflbemaa", sum := "0cae972701fde2afd3fe4ad516a0afb638e5a54d946c03209a23d6ee191c5d22", checked := Try.checked }
namespace Rows
def none {H : Type} : Left H := { results := [], args := [] }

/-- 'rookerylaw06.RlogNewer': WHATEVER THE INPUT: true; the input reads as it did. -/
def rlogNewerSpec : ChangeSpec := { name := "rlogNewer", fn := fun _ => fun
  | [d1, d2] => { results := [.lit (.bool true)], args := [d1, d2] }
  | _ => none }
def rlogNewerRow : OpenClaim := { program := "ytpkbeinnflbemaa", sum := "0cae972701fde2afd3fe4ad516a0afb638e5a54d946c03209a23d6ee191c5d22", func := "rookery/rookerylaw06.RlogNewer", spec := "rlogNewer", apart := false }
def RlogNewerSaid : Prop := rlogNewerRow.holds Try.pinned (OpenSpec.ofChange rlogNewerSpec)

/-- ITS FALSE NEIGHBOUR: 'it returns false'. Refute it at one input. -/
def rlogNewerWrong : ChangeSpec := { name := "rlogNewer", fn := fun _ => fun
  | [d1, d2] => { results := [.lit (.bool false)], args := [d1, d2] }
  | _ => none }
def RlogNewerWrongFalsely : Prop := rlogNewerRow.holds Try.pinned (OpenSpec.ofChange rlogNewerWrong)

/-- 'rookerylaw06.RlogCompacts': WHATEVER THE INPUT: true; the input reads as it did. -/
def rlogCompactsSpec : ChangeSpec := { name := "rlogCompacts", fn := fun _ => fun
  | [d1, d2, d3] => { results := [.lit (.bool true)], args := [d1, d2, d3] }
  | _ => none }
def rlogCompactsRow : OpenClaim := { program := "ytpkbeinnflbemaa", sum := "0cae972701fde2afd3fe4ad516a0afb638e5a54d946c03209a23d6ee191c5d22", func := "rookery/rookerylaw06.RlogCompacts", spec := "rlogCompacts", apart := false }
def RlogCompactsSaid : Prop := rlogCompactsRow.holds Try.pinned (OpenSpec.ofChange rlogCompactsSpec)

/-- ITS FALSE NEIGHBOUR: 'it returns false'. Refute it at one input. -/
def rlogCompactsWrong : ChangeSpec := { name := "rlogCompacts", fn := fun _ => fun
  | [d1, d2, d3] => { results := [.lit (.bool false)], args := [d1, d2, d3] }
  | _ => none }
def RlogCompactsWrongFalsely : Prop := rlogCompactsRow.holds Try.pinned (OpenSpec.ofChange rlogCompactsWrong)

/-- 'rookerylaw06.RlogRises': WHATEVER THE INPUT: true; the input reads as it did. -/
def rlogRisesSpec : ChangeSpec := { name := "rlogRises", fn := fun _ => fun
  | [d] => { results := [.lit (.bool true)], args := [d] }
  | _ => none }
def rlogRisesRow : OpenClaim := { program := "ytpkbeinnflbemaa", sum := "0cae972701fde2afd3fe4ad516a0afb638e5a54d946c03209a23d6ee191c5d22", func := "rookery/rookerylaw06.RlogRises", spec := "rlogRises", apart := false }
def RlogRisesSaid : Prop := rlogRisesRow.holds Try.pinned (OpenSpec.ofChange rlogRisesSpec)

/-- ITS FALSE NEIGHBOUR: 'it returns false'. Refute it at one input. -/
def rlogRisesWrong : ChangeSpec := { name := "rlogRises", fn := fun _ => fun
  | [d] => { results := [.lit (.bool false)], args := [d] }
  | _ => none }
def RlogRisesWrongFalsely : Prop := rlogRisesRow.holds Try.pinned (OpenSpec.ofChange rlogRisesWrong)

/-- 'rookerylaw06.RlogPlays': WHATEVER THE INPUT: true; the input reads as it did. -/
def rlogPlaysSpec : ChangeSpec := { name := "rlogPlays", fn := fun _ => fun
  | [d1, d2, d3] => { results := [.lit (.bool true)], args := [d1, d2, d3] }
  | _ => none }
def rlogPlaysRow : OpenClaim := { program := "ytpkbeinnflbemaa", sum := "0cae972701fde2afd3fe4ad516a0afb638e5a54d946c03209a23d6ee191c5d22", func := "rookery/rookerylaw06.RlogPlays", spec := "rlogPlays", apart := false }
def RlogPlaysSaid : Prop := rlogPlaysRow.holds Try.pinned (OpenSpec.ofChange rlogPlaysSpec)

/-- ITS FALSE NEIGHBOUR: 'it returns false'. Refute it at one input. -/
def rlogPlaysWrong : ChangeSpec := { name := "rlogPlays", fn := fun _ => fun
  | [d1, d2, d3] => { results := [.lit (.bool false)], args := [d1, d2, d3] }
  | _ => none }
def RlogPlaysWrongFalsely : Prop := rlogPlaysRow.holds Try.pinned (OpenSpec.ofChange rlogPlaysWrong)

/-- 'rookerylaw06.RlogNobody': WHATEVER THE INPUT: true; the input reads as it did. -/
def rlogNobodySpec : ChangeSpec := { name := "rlogNobody", fn := fun _ => fun
  | [d1, d2] => { results := [.lit (.bool true)], args := [d1, d2] }
  | _ => none }
def rlogNobodyRow : OpenClaim := { program := "ytpkbeinnflbemaa", sum := "0cae972701fde2afd3fe4ad516a0afb638e5a54d946c03209a23d6ee191c5d22", func := "rookery/rookerylaw06.RlogNobody", spec := "rlogNobody", apart := false }
def RlogNobodySaid : Prop := rlogNobodyRow.holds Try.pinned (OpenSpec.ofChange rlogNobodySpec)

/-- ITS FALSE NEIGHBOUR: 'it returns false'. Refute it at one input. -/
def rlogNobodyWrong : ChangeSpec := { name := "rlogNobody", fn := fun _ => fun
  | [d1, d2] => { results := [.lit (.bool false)], args := [d1, d2] }
  | _ => none }
def RlogNobodyWrongFalsely : Prop := rlogNobodyRow.holds Try.pinned (OpenSpec.ofChange rlogNobodyWrong)

/- THE SECOND FORM. 'bulk': how many values and letters a reading holds, each counted each time it is reached (what is shared counts as often as it is met; a slice's spare places count too). A statement '..UptoSaid' is the law's where the arguments, and the package variables that the reading takes, are together of bulk at most 1048576: NARROWER than '..Said'. Prove '..Said' where nothing that the law and all that it calls make is longer than what came in: it says more and counts as full. Else prove '..UptoSaid'. A law counts once. -/
mutual
def uptoBulk {H : Type} : DataW H → Nat
  | .lit (.string bytes) => bytes.length + 1
  | .lit _ => 1
  | .nil => 1
  | .ptr d => uptoBulk d + 1
  | .slice elems spare => uptoBulkAll elems + uptoBulkAll spare + 1
  | .agg parts => uptoBulkAll parts + 1
  | .iface _ d => uptoBulk d + 1
  | .map entries => uptoBulkEntries entries + 1
  | .held _ => 1
def uptoBulkAll {H : Type} : List (DataW H) → Nat
  | [] => 0
  | d :: r => uptoBulk d + uptoBulkAll r
def uptoBulkEntries {H : Type} : List (Lit × DataW H) → Nat
  | [] => 0
  | x :: r => uptoBulkEntry x + uptoBulkEntries r
def uptoBulkEntry {H : Type} : Lit × DataW H → Nat
  | (.string bytes, d) => bytes.length + uptoBulk d + 1
  | (_, d) => uptoBulk d + 1
 end
def uptoSmall : (H : Type) → List (DataW H) → Bool := fun _ ds => decide (uptoBulkAll ds ≤ 1048576)
def OpenSpec.upto (s : _root_.Go.ChangeSpec) : _root_.Go.OpenSpec := { _root_.Go.OpenSpec.ofChange s with cond := some uptoSmall }

/-- 'rookerylaw06.RlogNewer', WHERE WHAT IT READS IS OF BULK AT MOST 1048576: true; the input reads as it did. -/
def rlogNewerUptoRow : OpenClaim := { program := "ytpkbeinnflbemaa", sum := "0cae972701fde2afd3fe4ad516a0afb638e5a54d946c03209a23d6ee191c5d22", func := "rookery/rookerylaw06.RlogNewer", spec := "rlogNewer", apart := false, narrowed := true }
def RlogNewerUptoSaid : Prop := rlogNewerUptoRow.holds Try.pinned (OpenSpec.upto rlogNewerSpec)

/-- 'rookerylaw06.RlogCompacts', WHERE WHAT IT READS IS OF BULK AT MOST 1048576: true; the input reads as it did. -/
def rlogCompactsUptoRow : OpenClaim := { program := "ytpkbeinnflbemaa", sum := "0cae972701fde2afd3fe4ad516a0afb638e5a54d946c03209a23d6ee191c5d22", func := "rookery/rookerylaw06.RlogCompacts", spec := "rlogCompacts", apart := false, narrowed := true }
def RlogCompactsUptoSaid : Prop := rlogCompactsUptoRow.holds Try.pinned (OpenSpec.upto rlogCompactsSpec)

/-- 'rookerylaw06.RlogRises', WHERE WHAT IT READS IS OF BULK AT MOST 1048576: true; the input reads as it did. -/
def rlogRisesUptoRow : OpenClaim := { program := "ytpkbeinnflbemaa", sum := "0cae972701fde2afd3fe4ad516a0afb638e5a54d946c03209a23d6ee191c5d22", func := "rookery/rookerylaw06.RlogRises", spec := "rlogRises", apart := false, narrowed := true }
def RlogRisesUptoSaid : Prop := rlogRisesUptoRow.holds Try.pinned (OpenSpec.upto rlogRisesSpec)

/-- 'rookerylaw06.RlogPlays', WHERE WHAT IT READS IS OF BULK AT MOST 1048576: true; the input reads as it did. -/
def rlogPlaysUptoRow : OpenClaim := { program := "ytpkbeinnflbemaa", sum := "0cae972701fde2afd3fe4ad516a0afb638e5a54d946c03209a23d6ee191c5d22", func := "rookery/rookerylaw06.RlogPlays", spec := "rlogPlays", apart := false, narrowed := true }
def RlogPlaysUptoSaid : Prop := rlogPlaysUptoRow.holds Try.pinned (OpenSpec.upto rlogPlaysSpec)

/-- 'rookerylaw06.RlogNobody', WHERE WHAT IT READS IS OF BULK AT MOST 1048576: true; the input reads as it did. -/
def rlogNobodyUptoRow : OpenClaim := { program := "ytpkbeinnflbemaa", sum := "0cae972701fde2afd3fe4ad516a0afb638e5a54d946c03209a23d6ee191c5d22", func := "rookery/rookerylaw06.RlogNobody", spec := "rlogNobody", apart := false, narrowed := true }
def RlogNobodyUptoSaid : Prop := rlogNobodyUptoRow.holds Try.pinned (OpenSpec.upto rlogNobodySpec)

end Rows
end Go.Proofs.Ytpkbeinnflbemaa

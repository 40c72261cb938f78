/-
  No cell of these rows narrows 'for every input' (looked for: loops, veiled, ifaces, maps, wideKeys, modest, calm, conditions, laid).
  DERIVED. THE GIVEN ROWS OF THIS SEAT. 6 by the template 'for every input the law returns true; each argument reads behind the call as it read before'; 0 by the template 'total and deterministic' (their statements: YtpfnoilcmoaplaaTotals.lean).
  GIVEN WITH THE SEED: the statements are not yours to turn. If you find one false, say at which input.
  Laid BY PROGRAM, IN A SANDBOX (cutbox-rows.mjs): the forced cells as the released guide's own fill.sh prints them over the translation a90628fd5d3c17a9… (all of the seat's roots in one cut). By AI agents, Wed Nov 11 2026. No macro, syntax, notation, axiom, sorry.
-/
import Derived.Test.YtpfnoilcmoaplaaChecked
import GoSem.Claim
import GoSem.ClaimJoined
import GoSem.ClaimMapViews
import Derived.JoinedTies
import Derived.KernelRfl
namespace Go.Proofs.Ytpfnoilcmoaplaa
/- THE CELL 'sum', in the pinned program and in every row, IS THE sha256 OF THE DUMP (.gsa) THAT YtpfnoilcmoaplaaProg.lean LOADS. Nothing in Lean hashes anything: it is a label: what it is worth is what the hold of that sum in a sandbox is worth. -/
noncomputable def Try.pinned : Pinned := { name := "ytpfnoilcmoaplaa", sum := "a90628fd5d3c17a96bea9e9e654235dee41919e015497b081d0cc5d678752cd6", checked := Try.checked }
namespace Rows
def none {H : Type} : Left H := { results := [], args := [] }

/-- 'rookerylaw11.SessionLast': WHATEVER THE INPUT: true; the input reads as it did. -/
def sessionLastSpec : ChangeSpec := { name := "sessionLast", fn := fun _ => fun
  | [d1, d2] => { results := [.lit (.bool true)], args := [d1, d2] }
  | _ => none }
def sessionLastRow : OpenClaim := { program := "ytpfnoilcmoaplaa", sum := "a90628fd5d3c17a96bea9e9e654235dee41919e015497b081d0cc5d678752cd6", func := "rookery/rookerylaw11.SessionLast", spec := "sessionLast", apart := false }
def SessionLastSaid : Prop := sessionLastRow.holds Try.pinned (OpenSpec.ofChange sessionLastSpec)

/-- ITS FALSE NEIGHBOUR: 'it returns false'. Refute it at one input. -/
def sessionLastWrong : ChangeSpec := { name := "sessionLast", fn := fun _ => fun
  | [d1, d2] => { results := [.lit (.bool false)], args := [d1, d2] }
  | _ => none }
def SessionLastWrongFalsely : Prop := sessionLastRow.holds Try.pinned (OpenSpec.ofChange sessionLastWrong)

/-- 'rookerylaw11.SessionFull': WHATEVER THE INPUT: true; the input reads as it did. -/
def sessionFullSpec : ChangeSpec := { name := "sessionFull", fn := fun _ => fun
  | [d] => { results := [.lit (.bool true)], args := [d] }
  | _ => none }
def sessionFullRow : OpenClaim := { program := "ytpfnoilcmoaplaa", sum := "a90628fd5d3c17a96bea9e9e654235dee41919e015497b081d0cc5d678752cd6", func := "rookery/rookerylaw11.SessionFull", spec := "sessionFull", apart := false }
def SessionFullSaid : Prop := sessionFullRow.holds Try.pinned (OpenSpec.ofChange sessionFullSpec)

/-- ITS FALSE NEIGHBOUR: 'it returns false'. Refute it at one input. -/
def sessionFullWrong : ChangeSpec := { name := "sessionFull", fn := fun _ => fun
  | [d] => { results := [.lit (.bool false)], args := [d] }
  | _ => none }
def SessionFullWrongFalsely : Prop := sessionFullRow.holds Try.pinned (OpenSpec.ofChange sessionFullWrong)

/-- 'rookerylaw11.SessionKeeps': WHATEVER THE INPUT: true; the input reads as it did. -/
def sessionKeepsSpec : ChangeSpec := { name := "sessionKeeps", fn := fun _ => fun
  | [d] => { results := [.lit (.bool true)], args := [d] }
  | _ => none }
def sessionKeepsRow : OpenClaim := { program := "ytpfnoilcmoaplaa", sum := "a90628fd5d3c17a96bea9e9e654235dee41919e015497b081d0cc5d678752cd6", func := "rookery/rookerylaw11.SessionKeeps", spec := "sessionKeeps", apart := false }
def SessionKeepsSaid : Prop := sessionKeepsRow.holds Try.pinned (OpenSpec.ofChange sessionKeepsSpec)

/-- ITS FALSE NEIGHBOUR: 'it returns false'. Refute it at one input. -/
def sessionKeepsWrong : ChangeSpec := { name := "sessionKeeps", fn := fun _ => fun
  | [d] => { results := [.lit (.bool false)], args := [d] }
  | _ => none }
def SessionKeepsWrongFalsely : Prop := sessionKeepsRow.holds Try.pinned (OpenSpec.ofChange sessionKeepsWrong)

/-- 'rookerylaw11.SessionApart': WHATEVER THE INPUT: true; the input reads as it did. -/
def sessionApartSpec : ChangeSpec := { name := "sessionApart", fn := fun _ => fun
  | [d] => { results := [.lit (.bool true)], args := [d] }
  | _ => none }
def sessionApartRow : OpenClaim := { program := "ytpfnoilcmoaplaa", sum := "a90628fd5d3c17a96bea9e9e654235dee41919e015497b081d0cc5d678752cd6", func := "rookery/rookerylaw11.SessionApart", spec := "sessionApart", apart := false }
def SessionApartSaid : Prop := sessionApartRow.holds Try.pinned (OpenSpec.ofChange sessionApartSpec)

/-- ITS FALSE NEIGHBOUR: 'it returns false'. Refute it at one input. -/
def sessionApartWrong : ChangeSpec := { name := "sessionApart", fn := fun _ => fun
  | [d] => { results := [.lit (.bool false)], args := [d] }
  | _ => none }
def SessionApartWrongFalsely : Prop := sessionApartRow.holds Try.pinned (OpenSpec.ofChange sessionApartWrong)

/-- 'rookerylaw11.SessionPlays': WHATEVER THE INPUT: true; the input reads as it did. -/
def sessionPlaysSpec : ChangeSpec := { name := "sessionPlays", fn := fun _ => fun
  | [d] => { results := [.lit (.bool true)], args := [d] }
  | _ => none }
def sessionPlaysRow : OpenClaim := { program := "ytpfnoilcmoaplaa", sum := "a90628fd5d3c17a96bea9e9e654235dee41919e015497b081d0cc5d678752cd6", func := "rookery/rookerylaw11.SessionPlays", spec := "sessionPlays", inPlace := ["maps.clone"], unfollowed := true, recurses := true, apart := false }
def SessionPlaysSaid : Prop := sessionPlaysRow.holds Try.pinned (OpenSpec.ofChange sessionPlaysSpec)

/-- ITS FALSE NEIGHBOUR: 'it returns false'. Refute it at one input. -/
def sessionPlaysWrong : ChangeSpec := { name := "sessionPlays", fn := fun _ => fun
  | [d] => { results := [.lit (.bool false)], args := [d] }
  | _ => none }
def SessionPlaysWrongFalsely : Prop := sessionPlaysRow.holds Try.pinned (OpenSpec.ofChange sessionPlaysWrong)

/-- 'rookerylaw11.SessionNobody': WHATEVER THE INPUT: true; the input reads as it did. -/
def sessionNobodySpec : ChangeSpec := { name := "sessionNobody", fn := fun _ => fun
  | [d] => { results := [.lit (.bool true)], args := [d] }
  | _ => none }
def sessionNobodyRow : OpenClaim := { program := "ytpfnoilcmoaplaa", sum := "a90628fd5d3c17a96bea9e9e654235dee41919e015497b081d0cc5d678752cd6", func := "rookery/rookerylaw11.SessionNobody", spec := "sessionNobody", inPlace := ["maps.clone"], unfollowed := true, recurses := true, apart := false }
def SessionNobodySaid : Prop := sessionNobodyRow.holds Try.pinned (OpenSpec.ofChange sessionNobodySpec)

/-- ITS FALSE NEIGHBOUR: 'it returns false'. Refute it at one input. -/
def sessionNobodyWrong : ChangeSpec := { name := "sessionNobody", fn := fun _ => fun
  | [d] => { results := [.lit (.bool false)], args := [d] }
  | _ => none }
def SessionNobodyWrongFalsely : Prop := sessionNobodyRow.holds Try.pinned (OpenSpec.ofChange sessionNobodyWrong)

/- THE SECOND FORM. 'bulk': how many values and letters a reading holds, each counted each time it is reached (what is shared counts as often as it is met; a slice's spare places count too). A statement '..UptoSaid' is the law's where the arguments, and the package variables that the reading takes, are together of bulk at most 1048576: NARROWER than '..Said'. Prove '..Said' where nothing that the law and all that it calls make is longer than what came in: it says more and counts as full. Else prove '..UptoSaid'. A law counts once. -/
mutual
def uptoBulk {H : Type} : DataW H → Nat
  | .lit (.string bytes) => bytes.length + 1
  | .lit _ => 1
  | .nil => 1
  | .ptr d => uptoBulk d + 1
  | .slice elems spare => uptoBulkAll elems + uptoBulkAll spare + 1
  | .agg parts => uptoBulkAll parts + 1
  | .iface _ d => uptoBulk d + 1
  | .map entries => uptoBulkEntries entries + 1
  | .held _ => 1
def uptoBulkAll {H : Type} : List (DataW H) → Nat
  | [] => 0
  | d :: r => uptoBulk d + uptoBulkAll r
def uptoBulkEntries {H : Type} : List (Lit × DataW H) → Nat
  | [] => 0
  | x :: r => uptoBulkEntry x + uptoBulkEntries r
def uptoBulkEntry {H : Type} : Lit × DataW H → Nat
  | (.string bytes, d) => bytes.length + uptoBulk d + 1
  | (_, d) => uptoBulk d + 1
 end
def uptoSmall : (H : Type) → List (DataW H) → Bool := fun _ ds => decide (uptoBulkAll ds ≤ 1048576)
def OpenSpec.upto (s : _root_.Go.ChangeSpec) : _root_.Go.OpenSpec := { _root_.Go.OpenSpec.ofChange s with cond := some uptoSmall }

/-- 'rookerylaw11.SessionLast', WHERE WHAT IT READS IS OF BULK AT MOST 1048576: true; the input reads as it did. -/
def sessionLastUptoRow : OpenClaim := { program := "ytpfnoilcmoaplaa", sum := "a90628fd5d3c17a96bea9e9e654235dee41919e015497b081d0cc5d678752cd6", func := "rookery/rookerylaw11.SessionLast", spec := "sessionLast", apart := false, narrowed := true }
def SessionLastUptoSaid : Prop := sessionLastUptoRow.holds Try.pinned (OpenSpec.upto sessionLastSpec)

/-- 'rookerylaw11.SessionFull', WHERE WHAT IT READS IS OF BULK AT MOST 1048576: true; the input reads as it did. -/
def sessionFullUptoRow : OpenClaim := { program := "ytpfnoilcmoaplaa", sum := "a90628fd5d3c17a96bea9e9e654235dee41919e015497b081d0cc5d678752cd6", func := "rookery/rookerylaw11.SessionFull", spec := "sessionFull", apart := false, narrowed := true }
def SessionFullUptoSaid : Prop := sessionFullUptoRow.holds Try.pinned (OpenSpec.upto sessionFullSpec)

/-- 'rookerylaw11.SessionKeeps', WHERE WHAT IT READS IS OF BULK AT MOST 1048576: true; the input reads as it did. -/
def sessionKeepsUptoRow : OpenClaim := { program := "ytpfnoilcmoaplaa", sum := "a90628fd5d3c17a96bea9e9e654235dee41919e015497b081d0cc5d678752cd6", func := "rookery/rookerylaw11.SessionKeeps", spec := "sessionKeeps", apart := false, narrowed := true }
def SessionKeepsUptoSaid : Prop := sessionKeepsUptoRow.holds Try.pinned (OpenSpec.upto sessionKeepsSpec)

/-- 'rookerylaw11.SessionApart', WHERE WHAT IT READS IS OF BULK AT MOST 1048576: true; the input reads as it did. -/
def sessionApartUptoRow : OpenClaim := { program := "ytpfnoilcmoaplaa", sum := "a90628fd5d3c17a96bea9e9e654235dee41919e015497b081d0cc5d678752cd6", func := "rookery/rookerylaw11.SessionApart", spec := "sessionApart", apart := false, narrowed := true }
def SessionApartUptoSaid : Prop := sessionApartUptoRow.holds Try.pinned (OpenSpec.upto sessionApartSpec)

/-- 'rookerylaw11.SessionPlays', WHERE WHAT IT READS IS OF BULK AT MOST 1048576: true; the input reads as it did. -/
def sessionPlaysUptoRow : OpenClaim := { program := "ytpfnoilcmoaplaa", sum := "a90628fd5d3c17a96bea9e9e654235dee41919e015497b081d0cc5d678752cd6", func := "rookery/rookerylaw11.SessionPlays", spec := "sessionPlays", inPlace := ["maps.clone"], unfollowed := true, recurses := true, apart := false, narrowed := true }
def SessionPlaysUptoSaid : Prop := sessionPlaysUptoRow.holds Try.pinned (OpenSpec.upto sessionPlaysSpec)

/-- 'rookerylaw11.SessionNobody', WHERE WHAT IT READS IS OF BULK AT MOST 1048576: true; the input reads as it did. -/
def sessionNobodyUptoRow : OpenClaim := { program := "ytpfnoilcmoaplaa", sum := "a90628fd5d3c17a96bea9e9e654235dee41919e015497b081d0cc5d678752cd6", func := "rookery/rookerylaw11.SessionNobody", spec := "sessionNobody", inPlace := ["maps.clone"], unfollowed := true, recurses := true, apart := false, narrowed := true }
def SessionNobodyUptoSaid : Prop := sessionNobodyUptoRow.holds Try.pinned (OpenSpec.upto sessionNobodySpec)

end Rows
end Go.Proofs.Ytpfnoilcmoaplaa

/-
  NARROWER THAN 'FOR EVERY INPUT', by the rows' own cells (each row's printed sentence says how): MonitorMatchesReference: loops · MonitorJoins: loops · MonitorChecked: loops · MonitorMeans: loops · MonitorSamples: loops.
  DERIVED. THE GIVEN ROWS OF THIS SEAT. 6 by the template 'for every input the law returns true; each argument reads behind the call as it read before'; 0 by the template 'total and deterministic' (their statements: YtejlhbdknphikaaTotals.lean).
  GIVEN WITH THE SEED: the statements are not yours to turn. If you find one false, say at which input.
  Laid BY PROGRAM, IN A SANDBOX (cutbox-rows.mjs): the forced cells as the released guide's own fill.sh prints them over the translation 7f89ce592e95e398… (all of the seat's roots in one cut). By AI agents, Wed Nov 11 2026. No macro, syntax, notation, axiom, sorry.
-/
import Derived.Test.YtejlhbdknphikaaChecked
import GoSem.Claim
import GoSem.ClaimJoined
import GoSem.ClaimMapViews
import Derived.JoinedTies
import Derived.KernelRfl
namespace Go.Proofs.Ytejlhbdknphikaa
/- THE CELL 'sum', in the pinned program and in every row, IS THE sha256 OF THE DUMP (.gsa) THAT YtejlhbdknphikaaProg.lean LOADS. Nothing in Lean hashes anything: it is a label: what it is worth is what the hold of that sum in a sandbox is worth. -/
noncomputable def Try.pinned : Pinned := { name := "ytejlhbdknphikaa", sum := "7f89ce592e95e398e30b4fcd6c9e02ac9e2e5085b9f63cadbc1348f9dc2bb45c", checked := Try.checked }
namespace Rows
def none {H : Type} : Left H := { results := [], args := [] }

/-- 'parolelaw31.MonitorMatchesReference': WHATEVER THE INPUT: true; the input reads as it did. -/
def monitorMatchesReferenceSpec : ChangeSpec := { name := "monitorMatchesReference", fn := fun _ => fun
  | [d1, d2, d3] => { results := [.lit (.bool true)], args := [d1, d2, d3] }
  | _ => none }
def monitorMatchesReferenceRow : OpenClaim := { program := "ytejlhbdknphikaa", sum := "7f89ce592e95e398e30b4fcd6c9e02ac9e2e5085b9f63cadbc1348f9dc2bb45c", func := "parole/parolelaw31.MonitorMatchesReference", spec := "monitorMatchesReference", unfollowed := true, recurses := true, loops := true, apart := false }
def MonitorMatchesReferenceSaid : Prop := monitorMatchesReferenceRow.holds Try.pinned (OpenSpec.ofChange monitorMatchesReferenceSpec)

/-- ITS FALSE NEIGHBOUR: 'it returns false'. Refute it at one input. -/
def monitorMatchesReferenceWrong : ChangeSpec := { name := "monitorMatchesReference", fn := fun _ => fun
  | [d1, d2, d3] => { results := [.lit (.bool false)], args := [d1, d2, d3] }
  | _ => none }
def MonitorMatchesReferenceWrongFalsely : Prop := monitorMatchesReferenceRow.holds Try.pinned (OpenSpec.ofChange monitorMatchesReferenceWrong)

/-- 'parolelaw31.MonitorJoins': WHATEVER THE INPUT: true; the input reads as it did. -/
def monitorJoinsSpec : ChangeSpec := { name := "monitorJoins", fn := fun _ => fun
  | [d1, d2, d3] => { results := [.lit (.bool true)], args := [d1, d2, d3] }
  | _ => none }
def monitorJoinsRow : OpenClaim := { program := "ytejlhbdknphikaa", sum := "7f89ce592e95e398e30b4fcd6c9e02ac9e2e5085b9f63cadbc1348f9dc2bb45c", func := "parole/parolelaw31.MonitorJoins", spec := "monitorJoins", unfollowed := true, recurses := true, loops := true, apart := false }
def MonitorJoinsSaid : Prop := monitorJoinsRow.holds Try.pinned (OpenSpec.ofChange monitorJoinsSpec)

/-- ITS FALSE NEIGHBOUR: 'it returns false'. Refute it at one input. -/
def monitorJoinsWrong : ChangeSpec := { name := "monitorJoins", fn := fun _ => fun
  | [d1, d2, d3] => { results := [.lit (.bool false)], args := [d1, d2, d3] }
  | _ => none }
def MonitorJoinsWrongFalsely : Prop := monitorJoinsRow.holds Try.pinned (OpenSpec.ofChange monitorJoinsWrong)

/-- 'parolelaw31.MonitorRefuses': WHATEVER THE INPUT: true; the input reads as it did. -/
def monitorRefusesSpec : ChangeSpec := { name := "monitorRefuses", fn := fun _ => fun
  | [d1, d2, d3] => { results := [.lit (.bool true)], args := [d1, d2, d3] }
  | _ => none }
def monitorRefusesRow : OpenClaim := { program := "ytejlhbdknphikaa", sum := "7f89ce592e95e398e30b4fcd6c9e02ac9e2e5085b9f63cadbc1348f9dc2bb45c", func := "parole/parolelaw31.MonitorRefuses", spec := "monitorRefuses", unfollowed := true, recurses := true, apart := false }
def MonitorRefusesSaid : Prop := monitorRefusesRow.holds Try.pinned (OpenSpec.ofChange monitorRefusesSpec)

/-- ITS FALSE NEIGHBOUR: 'it returns false'. Refute it at one input. -/
def monitorRefusesWrong : ChangeSpec := { name := "monitorRefuses", fn := fun _ => fun
  | [d1, d2, d3] => { results := [.lit (.bool false)], args := [d1, d2, d3] }
  | _ => none }
def MonitorRefusesWrongFalsely : Prop := monitorRefusesRow.holds Try.pinned (OpenSpec.ofChange monitorRefusesWrong)

/-- 'parolelaw31.MonitorChecked': WHATEVER THE INPUT: true; the input reads as it did. -/
def monitorCheckedSpec : ChangeSpec := { name := "monitorChecked", fn := fun _ => fun
  | [d] => { results := [.lit (.bool true)], args := [d] }
  | _ => none }
def monitorCheckedRow : OpenClaim := { program := "ytejlhbdknphikaa", sum := "7f89ce592e95e398e30b4fcd6c9e02ac9e2e5085b9f63cadbc1348f9dc2bb45c", func := "parole/parolelaw31.MonitorChecked", spec := "monitorChecked", unfollowed := true, recurses := true, loops := true, apart := false }
def MonitorCheckedSaid : Prop := monitorCheckedRow.holds Try.pinned (OpenSpec.ofChange monitorCheckedSpec)

/-- ITS FALSE NEIGHBOUR: 'it returns false'. Refute it at one input. -/
def monitorCheckedWrong : ChangeSpec := { name := "monitorChecked", fn := fun _ => fun
  | [d] => { results := [.lit (.bool false)], args := [d] }
  | _ => none }
def MonitorCheckedWrongFalsely : Prop := monitorCheckedRow.holds Try.pinned (OpenSpec.ofChange monitorCheckedWrong)

/-- 'parolelaw31.MonitorMeans': WHATEVER THE INPUT: true; the input reads as it did. -/
def monitorMeansSpec : ChangeSpec := { name := "monitorMeans", fn := fun _ => fun
  | [d1, d2] => { results := [.lit (.bool true)], args := [d1, d2] }
  | _ => none }
def monitorMeansRow : OpenClaim := { program := "ytejlhbdknphikaa", sum := "7f89ce592e95e398e30b4fcd6c9e02ac9e2e5085b9f63cadbc1348f9dc2bb45c", func := "parole/parolelaw31.MonitorMeans", spec := "monitorMeans", unfollowed := true, recurses := true, loops := true, apart := false }
def MonitorMeansSaid : Prop := monitorMeansRow.holds Try.pinned (OpenSpec.ofChange monitorMeansSpec)

/-- ITS FALSE NEIGHBOUR: 'it returns false'. Refute it at one input. -/
def monitorMeansWrong : ChangeSpec := { name := "monitorMeans", fn := fun _ => fun
  | [d1, d2] => { results := [.lit (.bool false)], args := [d1, d2] }
  | _ => none }
def MonitorMeansWrongFalsely : Prop := monitorMeansRow.holds Try.pinned (OpenSpec.ofChange monitorMeansWrong)

/-- 'parolelaw31.MonitorSamples': WHATEVER THE INPUT: true; the input reads as it did. -/
def monitorSamplesSpec : ChangeSpec := { name := "monitorSamples", fn := fun _ => fun
  | [d1, d2, d3] => { results := [.lit (.bool true)], args := [d1, d2, d3] }
  | _ => none }
def monitorSamplesRow : OpenClaim := { program := "ytejlhbdknphikaa", sum := "7f89ce592e95e398e30b4fcd6c9e02ac9e2e5085b9f63cadbc1348f9dc2bb45c", func := "parole/parolelaw31.MonitorSamples", spec := "monitorSamples", unfollowed := true, recurses := true, loops := true, apart := false }
def MonitorSamplesSaid : Prop := monitorSamplesRow.holds Try.pinned (OpenSpec.ofChange monitorSamplesSpec)

/-- ITS FALSE NEIGHBOUR: 'it returns false'. Refute it at one input. -/
def monitorSamplesWrong : ChangeSpec := { name := "monitorSamples", fn := fun _ => fun
  | [d1, d2, d3] => { results := [.lit (.bool false)], args := [d1, d2, d3] }
  | _ => none }
def MonitorSamplesWrongFalsely : Prop := monitorSamplesRow.holds Try.pinned (OpenSpec.ofChange monitorSamplesWrong)

/- THE SECOND FORM. 'bulk': how many values and letters a reading holds, each counted each time it is reached (what is shared counts as often as it is met; a slice's spare places count too). A statement '..UptoSaid' is the law's where the arguments, and the package variables that the reading takes, are together of bulk at most 1048576: NARROWER than '..Said'. Prove '..Said' where nothing that the law and all that it calls make is longer than what came in: it says more and counts as full. Else prove '..UptoSaid'. A law counts once. -/
mutual
def uptoBulk {H : Type} : DataW H → Nat
  | .lit (.string bytes) => bytes.length + 1
  | .lit _ => 1
  | .nil => 1
  | .ptr d => uptoBulk d + 1
  | .slice elems spare => uptoBulkAll elems + uptoBulkAll spare + 1
  | .agg parts => uptoBulkAll parts + 1
  | .iface _ d => uptoBulk d + 1
  | .map entries => uptoBulkEntries entries + 1
  | .held _ => 1
def uptoBulkAll {H : Type} : List (DataW H) → Nat
  | [] => 0
  | d :: r => uptoBulk d + uptoBulkAll r
def uptoBulkEntries {H : Type} : List (Lit × DataW H) → Nat
  | [] => 0
  | x :: r => uptoBulkEntry x + uptoBulkEntries r
def uptoBulkEntry {H : Type} : Lit × DataW H → Nat
  | (.string bytes, d) => bytes.length + uptoBulk d + 1
  | (_, d) => uptoBulk d + 1
 end
def uptoSmall : (H : Type) → List (DataW H) → Bool := fun _ ds => decide (uptoBulkAll ds ≤ 1048576)
def OpenSpec.upto (s : _root_.Go.ChangeSpec) : _root_.Go.OpenSpec := { _root_.Go.OpenSpec.ofChange s with cond := some uptoSmall }

/-- 'parolelaw31.MonitorMatchesReference', WHERE WHAT IT READS IS OF BULK AT MOST 1048576: true; the input reads as it did. -/
def monitorMatchesReferenceUptoRow : OpenClaim := { program := "ytejlhbdknphikaa", sum := "7f89ce592e95e398e30b4fcd6c9e02ac9e2e5085b9f63cadbc1348f9dc2bb45c", func := "parole/parolelaw31.MonitorMatchesReference", spec := "monitorMatchesReference", unfollowed := true, recurses := true, loops := true, apart := false, narrowed := true }
def MonitorMatchesReferenceUptoSaid : Prop := monitorMatchesReferenceUptoRow.holds Try.pinned (OpenSpec.upto monitorMatchesReferenceSpec)

/-- 'parolelaw31.MonitorJoins', WHERE WHAT IT READS IS OF BULK AT MOST 1048576: true; the input reads as it did. -/
def monitorJoinsUptoRow : OpenClaim := { program := "ytejlhbdknphikaa", sum := "7f89ce592e95e398e30b4fcd6c9e02ac9e2e5085b9f63cadbc1348f9dc2bb45c", func := "parole/parolelaw31.MonitorJoins", spec := "monitorJoins", unfollowed := true, recurses := true, loops := true, apart := false, narrowed := true }
def MonitorJoinsUptoSaid : Prop := monitorJoinsUptoRow.holds Try.pinned (OpenSpec.upto monitorJoinsSpec)

/-- 'parolelaw31.MonitorRefuses', WHERE WHAT IT READS IS OF BULK AT MOST 1048576: true; the input reads as it did. -/
def monitorRefusesUptoRow : OpenClaim := { program := "ytejlhbdknphikaa", sum := "7f89ce592e95e398e30b4fcd6c9e02ac9e2e5085b9f63cadbc1348f9dc2bb45c", func := "parole/parolelaw31.MonitorRefuses", spec := "monitorRefuses", unfollowed := true, recurses := true, apart := false, narrowed := true }
def MonitorRefusesUptoSaid : Prop := monitorRefusesUptoRow.holds Try.pinned (OpenSpec.upto monitorRefusesSpec)

/-- 'parolelaw31.MonitorChecked', WHERE WHAT IT READS IS OF BULK AT MOST 1048576: true; the input reads as it did. -/
def monitorCheckedUptoRow : OpenClaim := { program := "ytejlhbdknphikaa", sum := "7f89ce592e95e398e30b4fcd6c9e02ac9e2e5085b9f63cadbc1348f9dc2bb45c", func := "parole/parolelaw31.MonitorChecked", spec := "monitorChecked", unfollowed := true, recurses := true, loops := true, apart := false, narrowed := true }
def MonitorCheckedUptoSaid : Prop := monitorCheckedUptoRow.holds Try.pinned (OpenSpec.upto monitorCheckedSpec)

/-- 'parolelaw31.MonitorMeans', WHERE WHAT IT READS IS OF BULK AT MOST 1048576: true; the input reads as it did. -/
def monitorMeansUptoRow : OpenClaim := { program := "ytejlhbdknphikaa", sum := "7f89ce592e95e398e30b4fcd6c9e02ac9e2e5085b9f63cadbc1348f9dc2bb45c", func := "parole/parolelaw31.MonitorMeans", spec := "monitorMeans", unfollowed := true, recurses := true, loops := true, apart := false, narrowed := true }
def MonitorMeansUptoSaid : Prop := monitorMeansUptoRow.holds Try.pinned (OpenSpec.upto monitorMeansSpec)

/-- 'parolelaw31.MonitorSamples', WHERE WHAT IT READS IS OF BULK AT MOST 1048576: true; the input reads as it did. -/
def monitorSamplesUptoRow : OpenClaim := { program := "ytejlhbdknphikaa", sum := "7f89ce592e95e398e30b4fcd6c9e02ac9e2e5085b9f63cadbc1348f9dc2bb45c", func := "parole/parolelaw31.MonitorSamples", spec := "monitorSamples", unfollowed := true, recurses := true, loops := true, apart := false, narrowed := true }
def MonitorSamplesUptoSaid : Prop := monitorSamplesUptoRow.holds Try.pinned (OpenSpec.upto monitorSamplesSpec)

end Rows
end Go.Proofs.Ytejlhbdknphikaa

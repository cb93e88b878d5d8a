/-
  NARROWER THAN 'FOR EVERY INPUT', by the rows' own cells (each row's printed sentence says how): NumSubstitutes: loops · NumConditions: loops · NumReads: loops · NumMatchesReference: loops.
  DERIVED. THE GIVEN ROWS OF THIS SEAT. 7 by the template 'for every input the law returns true; each argument reads behind the call as it read before'; 0 by the template 'total and deterministic' (their statements: YtfhfdenmcneamaaTotals.lean).
  GIVEN WITH THE SEED: the statements are not yours to turn. If you find one false, say at which input.
  Laid BY PROGRAM, IN A SANDBOX (cutbox-rows.mjs): the forced cells as the released guide's own fill.sh prints them over the translation ebe304a59f636cb5… (all of the seat's roots in one cut). By AI agents, Wed Nov 11 2026. No macro, syntax, notation, axiom, sorry.
-/
import Derived.Test.YtfhfdenmcneamaaChecked
import GoSem.Claim
import GoSem.ClaimJoined
import GoSem.ClaimMapViews
import Derived.JoinedTies
import Derived.KernelRfl
namespace Go.Proofs.Ytfhfdenmcneamaa
/- THE CELL 'sum', in the pinned program and in every row, IS THE sha256 OF THE DUMP (.gsa) THAT YtfhfdenmcneamaaProg.lean LOADS. Nothing in Lean hashes anything: it is a label: what it is worth is what the hold of that sum in a sandbox is worth. -/
noncomputable def Try.pinned : Pinned := { name := "ytfhfdenmcneamaa", sum := "ebe304a59f636cb596449b7555e5894fbfd13861b208fe312d979e1e7b02ab1a", checked := Try.checked }
namespace Rows
def none {H : Type} : Left H := { results := [], args := [] }

/-- 'parolelaw01.NumRing': WHATEVER THE INPUT: true; the input reads as it did. -/
def numRingSpec : ChangeSpec := { name := "numRing", fn := fun _ => fun
  | [d1, d2, d3] => { results := [.lit (.bool true)], args := [d1, d2, d3] }
  | _ => none }
def numRingRow : OpenClaim := { program := "ytfhfdenmcneamaa", sum := "ebe304a59f636cb596449b7555e5894fbfd13861b208fe312d979e1e7b02ab1a", func := "parole/parolelaw01.NumRing", spec := "numRing", unfollowed := true, recurses := true, apart := false }
def NumRingSaid : Prop := numRingRow.holds Try.pinned (OpenSpec.ofChange numRingSpec)

/-- ITS FALSE NEIGHBOUR: 'it returns false'. Refute it at one input. -/
def numRingWrong : ChangeSpec := { name := "numRing", fn := fun _ => fun
  | [d1, d2, d3] => { results := [.lit (.bool false)], args := [d1, d2, d3] }
  | _ => none }
def NumRingWrongFalsely : Prop := numRingRow.holds Try.pinned (OpenSpec.ofChange numRingWrong)

/-- 'parolelaw01.NumDivides': WHATEVER THE INPUT: true; the input reads as it did. -/
def numDividesSpec : ChangeSpec := { name := "numDivides", fn := fun _ => fun
  | [d1, d2] => { results := [.lit (.bool true)], args := [d1, d2] }
  | _ => none }
def numDividesRow : OpenClaim := { program := "ytfhfdenmcneamaa", sum := "ebe304a59f636cb596449b7555e5894fbfd13861b208fe312d979e1e7b02ab1a", func := "parole/parolelaw01.NumDivides", spec := "numDivides", unfollowed := true, recurses := true, apart := false }
def NumDividesSaid : Prop := numDividesRow.holds Try.pinned (OpenSpec.ofChange numDividesSpec)

/-- ITS FALSE NEIGHBOUR: 'it returns false'. Refute it at one input. -/
def numDividesWrong : ChangeSpec := { name := "numDivides", fn := fun _ => fun
  | [d1, d2] => { results := [.lit (.bool false)], args := [d1, d2] }
  | _ => none }
def NumDividesWrongFalsely : Prop := numDividesRow.holds Try.pinned (OpenSpec.ofChange numDividesWrong)

/-- 'parolelaw01.NumOrder': WHATEVER THE INPUT: true; the input reads as it did. -/
def numOrderSpec : ChangeSpec := { name := "numOrder", fn := fun _ => fun
  | [d1, d2, d3] => { results := [.lit (.bool true)], args := [d1, d2, d3] }
  | _ => none }
def numOrderRow : OpenClaim := { program := "ytfhfdenmcneamaa", sum := "ebe304a59f636cb596449b7555e5894fbfd13861b208fe312d979e1e7b02ab1a", func := "parole/parolelaw01.NumOrder", spec := "numOrder", unfollowed := true, recurses := true, apart := false }
def NumOrderSaid : Prop := numOrderRow.holds Try.pinned (OpenSpec.ofChange numOrderSpec)

/-- ITS FALSE NEIGHBOUR: 'it returns false'. Refute it at one input. -/
def numOrderWrong : ChangeSpec := { name := "numOrder", fn := fun _ => fun
  | [d1, d2, d3] => { results := [.lit (.bool false)], args := [d1, d2, d3] }
  | _ => none }
def NumOrderWrongFalsely : Prop := numOrderRow.holds Try.pinned (OpenSpec.ofChange numOrderWrong)

/-- 'parolelaw01.NumSubstitutes': WHATEVER THE INPUT: true; the input reads as it did. -/
def numSubstitutesSpec : ChangeSpec := { name := "numSubstitutes", fn := fun _ => fun
  | [d1, d2, d3] => { results := [.lit (.bool true)], args := [d1, d2, d3] }
  | _ => none }
def numSubstitutesRow : OpenClaim := { program := "ytfhfdenmcneamaa", sum := "ebe304a59f636cb596449b7555e5894fbfd13861b208fe312d979e1e7b02ab1a", func := "parole/parolelaw01.NumSubstitutes", spec := "numSubstitutes", unfollowed := true, recurses := true, loops := true, apart := false }
def NumSubstitutesSaid : Prop := numSubstitutesRow.holds Try.pinned (OpenSpec.ofChange numSubstitutesSpec)

/-- ITS FALSE NEIGHBOUR: 'it returns false'. Refute it at one input. -/
def numSubstitutesWrong : ChangeSpec := { name := "numSubstitutes", fn := fun _ => fun
  | [d1, d2, d3] => { results := [.lit (.bool false)], args := [d1, d2, d3] }
  | _ => none }
def NumSubstitutesWrongFalsely : Prop := numSubstitutesRow.holds Try.pinned (OpenSpec.ofChange numSubstitutesWrong)

/-- 'parolelaw01.NumConditions': WHATEVER THE INPUT: true; the input reads as it did. -/
def numConditionsSpec : ChangeSpec := { name := "numConditions", fn := fun _ => fun
  | [d1, d2, d3] => { results := [.lit (.bool true)], args := [d1, d2, d3] }
  | _ => none }
def numConditionsRow : OpenClaim := { program := "ytfhfdenmcneamaa", sum := "ebe304a59f636cb596449b7555e5894fbfd13861b208fe312d979e1e7b02ab1a", func := "parole/parolelaw01.NumConditions", spec := "numConditions", unfollowed := true, recurses := true, loops := true, apart := false }
def NumConditionsSaid : Prop := numConditionsRow.holds Try.pinned (OpenSpec.ofChange numConditionsSpec)

/-- ITS FALSE NEIGHBOUR: 'it returns false'. Refute it at one input. -/
def numConditionsWrong : ChangeSpec := { name := "numConditions", fn := fun _ => fun
  | [d1, d2, d3] => { results := [.lit (.bool false)], args := [d1, d2, d3] }
  | _ => none }
def NumConditionsWrongFalsely : Prop := numConditionsRow.holds Try.pinned (OpenSpec.ofChange numConditionsWrong)

/-- 'parolelaw01.NumReads': WHATEVER THE INPUT: true; the input reads as it did. -/
def numReadsSpec : ChangeSpec := { name := "numReads", fn := fun _ => fun
  | [d1, d2, d3] => { results := [.lit (.bool true)], args := [d1, d2, d3] }
  | _ => none }
def numReadsRow : OpenClaim := { program := "ytfhfdenmcneamaa", sum := "ebe304a59f636cb596449b7555e5894fbfd13861b208fe312d979e1e7b02ab1a", func := "parole/parolelaw01.NumReads", spec := "numReads", unfollowed := true, recurses := true, loops := true, apart := false }
def NumReadsSaid : Prop := numReadsRow.holds Try.pinned (OpenSpec.ofChange numReadsSpec)

/-- ITS FALSE NEIGHBOUR: 'it returns false'. Refute it at one input. -/
def numReadsWrong : ChangeSpec := { name := "numReads", fn := fun _ => fun
  | [d1, d2, d3] => { results := [.lit (.bool false)], args := [d1, d2, d3] }
  | _ => none }
def NumReadsWrongFalsely : Prop := numReadsRow.holds Try.pinned (OpenSpec.ofChange numReadsWrong)

/-- 'parolelaw01.NumMatchesReference': WHATEVER THE INPUT: true; the input reads as it did. -/
def numMatchesReferenceSpec : ChangeSpec := { name := "numMatchesReference", fn := fun _ => fun
  | [d1, d2, d3] => { results := [.lit (.bool true)], args := [d1, d2, d3] }
  | _ => none }
def numMatchesReferenceRow : OpenClaim := { program := "ytfhfdenmcneamaa", sum := "ebe304a59f636cb596449b7555e5894fbfd13861b208fe312d979e1e7b02ab1a", func := "parole/parolelaw01.NumMatchesReference", spec := "numMatchesReference", unfollowed := true, recurses := true, loops := true, apart := false }
def NumMatchesReferenceSaid : Prop := numMatchesReferenceRow.holds Try.pinned (OpenSpec.ofChange numMatchesReferenceSpec)

/-- ITS FALSE NEIGHBOUR: 'it returns false'. Refute it at one input. -/
def numMatchesReferenceWrong : ChangeSpec := { name := "numMatchesReference", fn := fun _ => fun
  | [d1, d2, d3] => { results := [.lit (.bool false)], args := [d1, d2, d3] }
  | _ => none }
def NumMatchesReferenceWrongFalsely : Prop := numMatchesReferenceRow.holds Try.pinned (OpenSpec.ofChange numMatchesReferenceWrong)

/- THE SECOND FORM. 'bulk': how many values and letters a reading holds, each counted each time it is reached (what is shared counts as often as it is met; a slice's spare places count too). A statement '..UptoSaid' is the law's where the arguments, and the package variables that the reading takes, are together of bulk at most 1048576: NARROWER than '..Said'. Prove '..Said' where nothing that the law and all that it calls make is longer than what came in: it says more and counts as full. Else prove '..UptoSaid'. A law counts once. -/
mutual
def uptoBulk {H : Type} : DataW H → Nat
  | .lit (.string bytes) => bytes.length + 1
  | .lit _ => 1
  | .nil => 1
  | .ptr d => uptoBulk d + 1
  | .slice elems spare => uptoBulkAll elems + uptoBulkAll spare + 1
  | .agg parts => uptoBulkAll parts + 1
  | .iface _ d => uptoBulk d + 1
  | .map entries => uptoBulkEntries entries + 1
  | .held _ => 1
def uptoBulkAll {H : Type} : List (DataW H) → Nat
  | [] => 0
  | d :: r => uptoBulk d + uptoBulkAll r
def uptoBulkEntries {H : Type} : List (Lit × DataW H) → Nat
  | [] => 0
  | x :: r => uptoBulkEntry x + uptoBulkEntries r
def uptoBulkEntry {H : Type} : Lit × DataW H → Nat
  | (.string bytes, d) => bytes.length + uptoBulk d + 1
  | (_, d) => uptoBulk d + 1
 end
def uptoSmall : (H : Type) → List (DataW H) → Bool := fun _ ds => decide (uptoBulkAll ds ≤ 1048576)
def OpenSpec.upto (s : _root_.Go.ChangeSpec) : _root_.Go.OpenSpec := { _root_.Go.OpenSpec.ofChange s with cond := some uptoSmall }

/-- 'parolelaw01.NumRing', WHERE WHAT IT READS IS OF BULK AT MOST 1048576: true; the input reads as it did. -/
def numRingUptoRow : OpenClaim := { program := "ytfhfdenmcneamaa", sum := "ebe304a59f636cb596449b7555e5894fbfd13861b208fe312d979e1e7b02ab1a", func := "parole/parolelaw01.NumRing", spec := "numRing", unfollowed := true, recurses := true, apart := false, narrowed := true }
def NumRingUptoSaid : Prop := numRingUptoRow.holds Try.pinned (OpenSpec.upto numRingSpec)

/-- 'parolelaw01.NumDivides', WHERE WHAT IT READS IS OF BULK AT MOST 1048576: true; the input reads as it did. -/
def numDividesUptoRow : OpenClaim := { program := "ytfhfdenmcneamaa", sum := "ebe304a59f636cb596449b7555e5894fbfd13861b208fe312d979e1e7b02ab1a", func := "parole/parolelaw01.NumDivides", spec := "numDivides", unfollowed := true, recurses := true, apart := false, narrowed := true }
def NumDividesUptoSaid : Prop := numDividesUptoRow.holds Try.pinned (OpenSpec.upto numDividesSpec)

/-- 'parolelaw01.NumOrder', WHERE WHAT IT READS IS OF BULK AT MOST 1048576: true; the input reads as it did. -/
def numOrderUptoRow : OpenClaim := { program := "ytfhfdenmcneamaa", sum := "ebe304a59f636cb596449b7555e5894fbfd13861b208fe312d979e1e7b02ab1a", func := "parole/parolelaw01.NumOrder", spec := "numOrder", unfollowed := true, recurses := true, apart := false, narrowed := true }
def NumOrderUptoSaid : Prop := numOrderUptoRow.holds Try.pinned (OpenSpec.upto numOrderSpec)

/-- 'parolelaw01.NumSubstitutes', WHERE WHAT IT READS IS OF BULK AT MOST 1048576: true; the input reads as it did. -/
def numSubstitutesUptoRow : OpenClaim := { program := "ytfhfdenmcneamaa", sum := "ebe304a59f636cb596449b7555e5894fbfd13861b208fe312d979e1e7b02ab1a", func := "parole/parolelaw01.NumSubstitutes", spec := "numSubstitutes", unfollowed := true, recurses := true, loops := true, apart := false, narrowed := true }
def NumSubstitutesUptoSaid : Prop := numSubstitutesUptoRow.holds Try.pinned (OpenSpec.upto numSubstitutesSpec)

/-- 'parolelaw01.NumConditions', WHERE WHAT IT READS IS OF BULK AT MOST 1048576: true; the input reads as it did. -/
def numConditionsUptoRow : OpenClaim := { program := "ytfhfdenmcneamaa", sum := "ebe304a59f636cb596449b7555e5894fbfd13861b208fe312d979e1e7b02ab1a", func := "parole/parolelaw01.NumConditions", spec := "numConditions", unfollowed := true, recurses := true, loops := true, apart := false, narrowed := true }
def NumConditionsUptoSaid : Prop := numConditionsUptoRow.holds Try.pinned (OpenSpec.upto numConditionsSpec)

/-- 'parolelaw01.NumReads', WHERE WHAT IT READS IS OF BULK AT MOST 1048576: true; the input reads as it did. -/
def numReadsUptoRow : OpenClaim := { program := "ytfhfdenmcneamaa", sum := "ebe304a59f636cb596449b7555e5894fbfd13861b208fe312d979e1e7b02ab1a", func := "parole/parolelaw01.NumReads", spec := "numReads", unfollowed := true, recurses := true, loops := true, apart := false, narrowed := true }
def NumReadsUptoSaid : Prop := numReadsUptoRow.holds Try.pinned (OpenSpec.upto numReadsSpec)

/-- 'parolelaw01.NumMatchesReference', WHERE WHAT IT READS IS OF BULK AT MOST 1048576: true; the input reads as it did. -/
def numMatchesReferenceUptoRow : OpenClaim := { program := "ytfhfdenmcneamaa", sum := "ebe304a59f636cb596449b7555e5894fbfd13861b208fe312d979e1e7b02ab1a", func := "parole/parolelaw01.NumMatchesReference", spec := "numMatchesReference", unfollowed := true, recurses := true, loops := true, apart := false, narrowed := true }
def NumMatchesReferenceUptoSaid : Prop := numMatchesReferenceUptoRow.holds Try.pinned (OpenSpec.upto numMatchesReferenceSpec)

end Rows
end Go.Proofs.Ytfhfdenmcneamaa

/-
  No cell of these rows narrows 'for every input' (looked for: loops, veiled, ifaces, maps, wideKeys, modest, calm, conditions, laid).
  DERIVED. THE GIVEN ROWS OF THIS SEAT. 6 by the template 'for every input the law returns true; each argument reads behind the call as it read before'; 0 by the template 'total and deterministic' (their statements: YtlhmionefjopiaaTotals.lean).
  GIVEN WITH THE SEED: the statements are not yours to turn. If you find one false, say at which input.
  Laid BY PROGRAM, IN A SANDBOX (cutbox-rows.mjs): the forced cells as the released guide's own fill.sh prints them over the translation 81bf40a1fc419d3b… (all of the seat's roots in one cut). By AI agents, Wed Nov 11 2026. No macro, syntax, notation, axiom, sorry.
-/
import Derived.Test.YtlhmionefjopiaaChecked
import GoSem.Claim
import GoSem.ClaimJoined
import GoSem.ClaimMapViews
import Derived.JoinedTies
import Derived.KernelRfl
namespace Go.Proofs.Ytlhmionefjopiaa
/- THE CELL 'sum', in the pinned program and in every row, IS THE sha256 OF THE DUMP (.gsa) THAT YtlhmionefjopiaaProg.lean LOADS. Nothing in Lean hashes anything: it is a label: what it is worth is what the hold of that sum in a sandbox is worth. -/
noncomputable def Try.pinned : Pinned := { name := "ytlhmionefjopiaa", sum := "81bf40a1fc419d3b0621a2458da3669179ba345c7f3b7d3ac993f087c167dfb5", checked := Try.checked }
namespace Rows
def none {H : Type} : Left H := { results := [], args := [] }

/-- 'parolelaw37.OddsMatchesReference': WHATEVER THE INPUT: true; the input reads as it did. -/
def oddsMatchesReferenceSpec : ChangeSpec := { name := "oddsMatchesReference", fn := fun _ => fun
  | [d1, d2, d3] => { results := [.lit (.bool true)], args := [d1, d2, d3] }
  | _ => none }
def oddsMatchesReferenceRow : OpenClaim := { program := "ytlhmionefjopiaa", sum := "81bf40a1fc419d3b0621a2458da3669179ba345c7f3b7d3ac993f087c167dfb5", func := "parole/parolelaw37.OddsMatchesReference", spec := "oddsMatchesReference", unfollowed := true, recurses := true, apart := false }
def OddsMatchesReferenceSaid : Prop := oddsMatchesReferenceRow.holds Try.pinned (OpenSpec.ofChange oddsMatchesReferenceSpec)

/-- ITS FALSE NEIGHBOUR: 'it returns false'. Refute it at one input. -/
def oddsMatchesReferenceWrong : ChangeSpec := { name := "oddsMatchesReference", fn := fun _ => fun
  | [d1, d2, d3] => { results := [.lit (.bool false)], args := [d1, d2, d3] }
  | _ => none }
def OddsMatchesReferenceWrongFalsely : Prop := oddsMatchesReferenceRow.holds Try.pinned (OpenSpec.ofChange oddsMatchesReferenceWrong)

/-- 'parolelaw37.OddsOrder': WHATEVER THE INPUT: true; the input reads as it did. -/
def oddsOrderSpec : ChangeSpec := { name := "oddsOrder", fn := fun _ => fun
  | [d1, d2, d3] => { results := [.lit (.bool true)], args := [d1, d2, d3] }
  | _ => none }
def oddsOrderRow : OpenClaim := { program := "ytlhmionefjopiaa", sum := "81bf40a1fc419d3b0621a2458da3669179ba345c7f3b7d3ac993f087c167dfb5", func := "parole/parolelaw37.OddsOrder", spec := "oddsOrder", unfollowed := true, recurses := true, apart := false }
def OddsOrderSaid : Prop := oddsOrderRow.holds Try.pinned (OpenSpec.ofChange oddsOrderSpec)

/-- ITS FALSE NEIGHBOUR: 'it returns false'. Refute it at one input. -/
def oddsOrderWrong : ChangeSpec := { name := "oddsOrder", fn := fun _ => fun
  | [d1, d2, d3] => { results := [.lit (.bool false)], args := [d1, d2, d3] }
  | _ => none }
def OddsOrderWrongFalsely : Prop := oddsOrderRow.holds Try.pinned (OpenSpec.ofChange oddsOrderWrong)

/-- 'parolelaw37.OddsRefuses': WHATEVER THE INPUT: true; the input reads as it did. -/
def oddsRefusesSpec : ChangeSpec := { name := "oddsRefuses", fn := fun _ => fun
  | [d1, d2, d3] => { results := [.lit (.bool true)], args := [d1, d2, d3] }
  | _ => none }
def oddsRefusesRow : OpenClaim := { program := "ytlhmionefjopiaa", sum := "81bf40a1fc419d3b0621a2458da3669179ba345c7f3b7d3ac993f087c167dfb5", func := "parole/parolelaw37.OddsRefuses", spec := "oddsRefuses", unfollowed := true, recurses := true, apart := false }
def OddsRefusesSaid : Prop := oddsRefusesRow.holds Try.pinned (OpenSpec.ofChange oddsRefusesSpec)

/-- ITS FALSE NEIGHBOUR: 'it returns false'. Refute it at one input. -/
def oddsRefusesWrong : ChangeSpec := { name := "oddsRefuses", fn := fun _ => fun
  | [d1, d2, d3] => { results := [.lit (.bool false)], args := [d1, d2, d3] }
  | _ => none }
def OddsRefusesWrongFalsely : Prop := oddsRefusesRow.holds Try.pinned (OpenSpec.ofChange oddsRefusesWrong)

/-- 'parolelaw37.OddsBetween': WHATEVER THE INPUT: true; the input reads as it did. -/
def oddsBetweenSpec : ChangeSpec := { name := "oddsBetween", fn := fun _ => fun
  | [d1, d2, d3] => { results := [.lit (.bool true)], args := [d1, d2, d3] }
  | _ => none }
def oddsBetweenRow : OpenClaim := { program := "ytlhmionefjopiaa", sum := "81bf40a1fc419d3b0621a2458da3669179ba345c7f3b7d3ac993f087c167dfb5", func := "parole/parolelaw37.OddsBetween", spec := "oddsBetween", inPlace := ["math/bits.Add64", "math/bits.Sub64"], unfollowed := true, recurses := true, apart := false }
def OddsBetweenSaid : Prop := oddsBetweenRow.holds Try.pinned (OpenSpec.ofChange oddsBetweenSpec)

/-- ITS FALSE NEIGHBOUR: 'it returns false'. Refute it at one input. -/
def oddsBetweenWrong : ChangeSpec := { name := "oddsBetween", fn := fun _ => fun
  | [d1, d2, d3] => { results := [.lit (.bool false)], args := [d1, d2, d3] }
  | _ => none }
def OddsBetweenWrongFalsely : Prop := oddsBetweenRow.holds Try.pinned (OpenSpec.ofChange oddsBetweenWrong)

/-- 'parolelaw37.OddsFair': WHATEVER THE INPUT: true; the input reads as it did. -/
def oddsFairSpec : ChangeSpec := { name := "oddsFair", fn := fun _ => fun
  | [d1, d2] => { results := [.lit (.bool true)], args := [d1, d2] }
  | _ => none }
def oddsFairRow : OpenClaim := { program := "ytlhmionefjopiaa", sum := "81bf40a1fc419d3b0621a2458da3669179ba345c7f3b7d3ac993f087c167dfb5", func := "parole/parolelaw37.OddsFair", spec := "oddsFair", inPlace := ["math/bits.Add64", "math/bits.Sub64"], unfollowed := true, recurses := true, named := ["math/bits.divideError", "math/bits.overflowError"], apart := false }
def OddsFairSaid : Prop := oddsFairRow.holds Try.pinned (OpenSpec.ofChange oddsFairSpec)

/-- ITS FALSE NEIGHBOUR: 'it returns false'. Refute it at one input. -/
def oddsFairWrong : ChangeSpec := { name := "oddsFair", fn := fun _ => fun
  | [d1, d2] => { results := [.lit (.bool false)], args := [d1, d2] }
  | _ => none }
def OddsFairWrongFalsely : Prop := oddsFairRow.holds Try.pinned (OpenSpec.ofChange oddsFairWrong)

/-- 'parolelaw37.OddsLosses': WHATEVER THE INPUT: true; the input reads as it did. -/
def oddsLossesSpec : ChangeSpec := { name := "oddsLosses", fn := fun _ => fun
  | [d1, d2, d3] => { results := [.lit (.bool true)], args := [d1, d2, d3] }
  | _ => none }
def oddsLossesRow : OpenClaim := { program := "ytlhmionefjopiaa", sum := "81bf40a1fc419d3b0621a2458da3669179ba345c7f3b7d3ac993f087c167dfb5", func := "parole/parolelaw37.OddsLosses", spec := "oddsLosses", inPlace := ["math/bits.Add64", "math/bits.Sub64"], unfollowed := true, recurses := true, named := ["math/bits.divideError", "math/bits.overflowError"], apart := false }
def OddsLossesSaid : Prop := oddsLossesRow.holds Try.pinned (OpenSpec.ofChange oddsLossesSpec)

/-- ITS FALSE NEIGHBOUR: 'it returns false'. Refute it at one input. -/
def oddsLossesWrong : ChangeSpec := { name := "oddsLosses", fn := fun _ => fun
  | [d1, d2, d3] => { results := [.lit (.bool false)], args := [d1, d2, d3] }
  | _ => none }
def OddsLossesWrongFalsely : Prop := oddsLossesRow.holds Try.pinned (OpenSpec.ofChange oddsLossesWrong)

/- THE SECOND FORM. 'bulk': how many values and letters a reading holds, each counted each time it is reached (what is shared counts as often as it is met; a slice's spare places count too). A statement '..UptoSaid' is the law's where the arguments, and the package variables that the reading takes, are together of bulk at most 1048576: NARROWER than '..Said'. Prove '..Said' where nothing that the law and all that it calls make is longer than what came in: it says more and counts as full. Else prove '..UptoSaid'. A law counts once. -/
mutual
def uptoBulk {H : Type} : DataW H → Nat
  | .lit (.string bytes) => bytes.length + 1
  | .lit _ => 1
  | .nil => 1
  | .ptr d => uptoBulk d + 1
  | .slice elems spare => uptoBulkAll elems + uptoBulkAll spare + 1
  | .agg parts => uptoBulkAll parts + 1
  | .iface _ d => uptoBulk d + 1
  | .map entries => uptoBulkEntries entries + 1
  | .held _ => 1
def uptoBulkAll {H : Type} : List (DataW H) → Nat
  | [] => 0
  | d :: r => uptoBulk d + uptoBulkAll r
def uptoBulkEntries {H : Type} : List (Lit × DataW H) → Nat
  | [] => 0
  | x :: r => uptoBulkEntry x + uptoBulkEntries r
def uptoBulkEntry {H : Type} : Lit × DataW H → Nat
  | (.string bytes, d) => bytes.length + uptoBulk d + 1
  | (_, d) => uptoBulk d + 1
 end
def uptoSmall : (H : Type) → List (DataW H) → Bool := fun _ ds => decide (uptoBulkAll ds ≤ 1048576)
def OpenSpec.upto (s : _root_.Go.ChangeSpec) : _root_.Go.OpenSpec := { _root_.Go.OpenSpec.ofChange s with cond := some uptoSmall }

/-- 'parolelaw37.OddsMatchesReference', WHERE WHAT IT READS IS OF BULK AT MOST 1048576: true; the input reads as it did. -/
def oddsMatchesReferenceUptoRow : OpenClaim := { program := "ytlhmionefjopiaa", sum := "81bf40a1fc419d3b0621a2458da3669179ba345c7f3b7d3ac993f087c167dfb5", func := "parole/parolelaw37.OddsMatchesReference", spec := "oddsMatchesReference", unfollowed := true, recurses := true, apart := false, narrowed := true }
def OddsMatchesReferenceUptoSaid : Prop := oddsMatchesReferenceUptoRow.holds Try.pinned (OpenSpec.upto oddsMatchesReferenceSpec)

/-- 'parolelaw37.OddsOrder', WHERE WHAT IT READS IS OF BULK AT MOST 1048576: true; the input reads as it did. -/
def oddsOrderUptoRow : OpenClaim := { program := "ytlhmionefjopiaa", sum := "81bf40a1fc419d3b0621a2458da3669179ba345c7f3b7d3ac993f087c167dfb5", func := "parole/parolelaw37.OddsOrder", spec := "oddsOrder", unfollowed := true, recurses := true, apart := false, narrowed := true }
def OddsOrderUptoSaid : Prop := oddsOrderUptoRow.holds Try.pinned (OpenSpec.upto oddsOrderSpec)

/-- 'parolelaw37.OddsRefuses', WHERE WHAT IT READS IS OF BULK AT MOST 1048576: true; the input reads as it did. -/
def oddsRefusesUptoRow : OpenClaim := { program := "ytlhmionefjopiaa", sum := "81bf40a1fc419d3b0621a2458da3669179ba345c7f3b7d3ac993f087c167dfb5", func := "parole/parolelaw37.OddsRefuses", spec := "oddsRefuses", unfollowed := true, recurses := true, apart := false, narrowed := true }
def OddsRefusesUptoSaid : Prop := oddsRefusesUptoRow.holds Try.pinned (OpenSpec.upto oddsRefusesSpec)

/-- 'parolelaw37.OddsBetween', WHERE WHAT IT READS IS OF BULK AT MOST 1048576: true; the input reads as it did. -/
def oddsBetweenUptoRow : OpenClaim := { program := "ytlhmionefjopiaa", sum := "81bf40a1fc419d3b0621a2458da3669179ba345c7f3b7d3ac993f087c167dfb5", func := "parole/parolelaw37.OddsBetween", spec := "oddsBetween", inPlace := ["math/bits.Add64", "math/bits.Sub64"], unfollowed := true, recurses := true, apart := false, narrowed := true }
def OddsBetweenUptoSaid : Prop := oddsBetweenUptoRow.holds Try.pinned (OpenSpec.upto oddsBetweenSpec)

/-- 'parolelaw37.OddsFair', WHERE WHAT IT READS IS OF BULK AT MOST 1048576: true; the input reads as it did. -/
def oddsFairUptoRow : OpenClaim := { program := "ytlhmionefjopiaa", sum := "81bf40a1fc419d3b0621a2458da3669179ba345c7f3b7d3ac993f087c167dfb5", func := "parole/parolelaw37.OddsFair", spec := "oddsFair", inPlace := ["math/bits.Add64", "math/bits.Sub64"], unfollowed := true, recurses := true, named := ["math/bits.divideError", "math/bits.overflowError"], apart := false, narrowed := true }
def OddsFairUptoSaid : Prop := oddsFairUptoRow.holds Try.pinned (OpenSpec.upto oddsFairSpec)

/-- 'parolelaw37.OddsLosses', WHERE WHAT IT READS IS OF BULK AT MOST 1048576: true; the input reads as it did. -/
def oddsLossesUptoRow : OpenClaim := { program := "ytlhmionefjopiaa", sum := "81bf40a1fc419d3b0621a2458da3669179ba345c7f3b7d3ac993f087c167dfb5", func := "parole/parolelaw37.OddsLosses", spec := "oddsLosses", inPlace := ["math/bits.Add64", "math/bits.Sub64"], unfollowed := true, recurses := true, named := ["math/bits.divideError", "math/bits.overflowError"], apart := false, narrowed := true }
def OddsLossesUptoSaid : Prop := oddsLossesUptoRow.holds Try.pinned (OpenSpec.upto oddsLossesSpec)

end Rows
end Go.Proofs.Ytlhmionefjopiaa

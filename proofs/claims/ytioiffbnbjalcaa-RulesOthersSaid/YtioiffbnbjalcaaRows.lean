/-
  No cell of these rows narrows 'for every input' (looked for: loops, veiled, ifaces, maps, wideKeys, modest, calm, conditions, laid).
  DERIVED. THE GIVEN ROWS OF THIS SEAT. 4 by the template 'for every input the law returns true; each argument reads behind the call as it read before'; 0 by the template 'total and deterministic' (their statements: YtioiffbnbjalcaaTotals.lean).
  GIVEN WITH THE SEED: the statements are not yours to turn. If you find one false, say at which input.
  Laid BY PROGRAM, IN A SANDBOX (cutbox-rows.mjs): the forced cells as the released guide's own fill.sh prints them over the translation a7c5b5445f557b20… (all of the seat's roots in one cut). By AI agents, Wed Nov 11 2026. No macro, syntax, notation, axiom, sorry.
-/
import Derived.Test.YtioiffbnbjalcaaChecked
import GoSem.Claim
import GoSem.ClaimJoined
import GoSem.ClaimMapViews
import Derived.JoinedTies
import Derived.KernelRfl
namespace Go.Proofs.Ytioiffbnbjalcaa
/- THE CELL 'sum', in the pinned program and in every row, IS THE sha256 OF THE DUMP (.gsa) THAT YtioiffbnbjalcaaProg.lean LOADS. Nothing in Lean hashes anything: it is a label: what it is worth is what the hold of that sum in a sandbox is worth. -/
noncomputable def Try.pinned : Pinned := { name := "ytioiffbnbjalcaa", sum := "a7c5b5445f557b2000e58a0ddd87b0febe3c0d530308ee1ab96f89f8b1bc3954", checked := Try.checked }
namespace Rows
def none {H : Type} : Left H := { results := [], args := [] }

/-- 'parolelaw13.RulesNarrow': WHATEVER THE INPUT: true; the input reads as it did. -/
def rulesNarrowSpec : ChangeSpec := { name := "rulesNarrow", fn := fun _ => fun
  | [d1, d2] => { results := [.lit (.bool true)], args := [d1, d2] }
  | _ => none }
def rulesNarrowRow : OpenClaim := { program := "ytioiffbnbjalcaa", sum := "a7c5b5445f557b2000e58a0ddd87b0febe3c0d530308ee1ab96f89f8b1bc3954", func := "parole/parolelaw13.RulesNarrow", spec := "rulesNarrow", unfollowed := true, recurses := true, apart := false }
def RulesNarrowSaid : Prop := rulesNarrowRow.holds Try.pinned (OpenSpec.ofChange rulesNarrowSpec)

/-- ITS FALSE NEIGHBOUR: 'it returns false'. Refute it at one input. -/
def rulesNarrowWrong : ChangeSpec := { name := "rulesNarrow", fn := fun _ => fun
  | [d1, d2] => { results := [.lit (.bool false)], args := [d1, d2] }
  | _ => none }
def RulesNarrowWrongFalsely : Prop := rulesNarrowRow.holds Try.pinned (OpenSpec.ofChange rulesNarrowWrong)

/-- 'parolelaw13.RulesSound': WHATEVER THE INPUT: true; the input reads as it did. -/
def rulesSoundSpec : ChangeSpec := { name := "rulesSound", fn := fun _ => fun
  | [d1, d2, d3] => { results := [.lit (.bool true)], args := [d1, d2, d3] }
  | _ => none }
def rulesSoundRow : OpenClaim := { program := "ytioiffbnbjalcaa", sum := "a7c5b5445f557b2000e58a0ddd87b0febe3c0d530308ee1ab96f89f8b1bc3954", func := "parole/parolelaw13.RulesSound", spec := "rulesSound", unfollowed := true, recurses := true, apart := false }
def RulesSoundSaid : Prop := rulesSoundRow.holds Try.pinned (OpenSpec.ofChange rulesSoundSpec)

/-- ITS FALSE NEIGHBOUR: 'it returns false'. Refute it at one input. -/
def rulesSoundWrong : ChangeSpec := { name := "rulesSound", fn := fun _ => fun
  | [d1, d2, d3] => { results := [.lit (.bool false)], args := [d1, d2, d3] }
  | _ => none }
def RulesSoundWrongFalsely : Prop := rulesSoundRow.holds Try.pinned (OpenSpec.ofChange rulesSoundWrong)

/-- 'parolelaw13.RulesRefuses': WHATEVER THE INPUT: true; the input reads as it did. -/
def rulesRefusesSpec : ChangeSpec := { name := "rulesRefuses", fn := fun _ => fun
  | [d1, d2, d3] => { results := [.lit (.bool true)], args := [d1, d2, d3] }
  | _ => none }
def rulesRefusesRow : OpenClaim := { program := "ytioiffbnbjalcaa", sum := "a7c5b5445f557b2000e58a0ddd87b0febe3c0d530308ee1ab96f89f8b1bc3954", func := "parole/parolelaw13.RulesRefuses", spec := "rulesRefuses", unfollowed := true, recurses := true, apart := false }
def RulesRefusesSaid : Prop := rulesRefusesRow.holds Try.pinned (OpenSpec.ofChange rulesRefusesSpec)

/-- ITS FALSE NEIGHBOUR: 'it returns false'. Refute it at one input. -/
def rulesRefusesWrong : ChangeSpec := { name := "rulesRefuses", fn := fun _ => fun
  | [d1, d2, d3] => { results := [.lit (.bool false)], args := [d1, d2, d3] }
  | _ => none }
def RulesRefusesWrongFalsely : Prop := rulesRefusesRow.holds Try.pinned (OpenSpec.ofChange rulesRefusesWrong)

/-- 'parolelaw13.RulesOthers': WHATEVER THE INPUT: true; the input reads as it did. -/
def rulesOthersSpec : ChangeSpec := { name := "rulesOthers", fn := fun _ => fun
  | [d1, d2, d3] => { results := [.lit (.bool true)], args := [d1, d2, d3] }
  | _ => none }
def rulesOthersRow : OpenClaim := { program := "ytioiffbnbjalcaa", sum := "a7c5b5445f557b2000e58a0ddd87b0febe3c0d530308ee1ab96f89f8b1bc3954", func := "parole/parolelaw13.RulesOthers", spec := "rulesOthers", unfollowed := true, recurses := true, apart := false }
def RulesOthersSaid : Prop := rulesOthersRow.holds Try.pinned (OpenSpec.ofChange rulesOthersSpec)

/-- ITS FALSE NEIGHBOUR: 'it returns false'. Refute it at one input. -/
def rulesOthersWrong : ChangeSpec := { name := "rulesOthers", fn := fun _ => fun
  | [d1, d2, d3] => { results := [.lit (.bool false)], args := [d1, d2, d3] }
  | _ => none }
def RulesOthersWrongFalsely : Prop := rulesOthersRow.holds Try.pinned (OpenSpec.ofChange rulesOthersWrong)

/- THE SECOND FORM. 'bulk': how many values and letters a reading holds, each counted each time it is reached (what is shared counts as often as it is met; a slice's spare places count too). A statement '..UptoSaid' is the law's where the arguments, and the package variables that the reading takes, are together of bulk at most 1048576: NARROWER than '..Said'. Prove '..Said' where nothing that the law and all that it calls make is longer than what came in: it says more and counts as full. Else prove '..UptoSaid'. A law counts once. -/
mutual
def uptoBulk {H : Type} : DataW H → Nat
  | .lit (.string bytes) => bytes.length + 1
  | .lit _ => 1
  | .nil => 1
  | .ptr d => uptoBulk d + 1
  | .slice elems spare => uptoBulkAll elems + uptoBulkAll spare + 1
  | .agg parts => uptoBulkAll parts + 1
  | .iface _ d => uptoBulk d + 1
  | .map entries => uptoBulkEntries entries + 1
  | .held _ => 1
def uptoBulkAll {H : Type} : List (DataW H) → Nat
  | [] => 0
  | d :: r => uptoBulk d + uptoBulkAll r
def uptoBulkEntries {H : Type} : List (Lit × DataW H) → Nat
  | [] => 0
  | x :: r => uptoBulkEntry x + uptoBulkEntries r
def uptoBulkEntry {H : Type} : Lit × DataW H → Nat
  | (.string bytes, d) => bytes.length + uptoBulk d + 1
  | (_, d) => uptoBulk d + 1
 end
def uptoSmall : (H : Type) → List (DataW H) → Bool := fun _ ds => decide (uptoBulkAll ds ≤ 1048576)
def OpenSpec.upto (s : _root_.Go.ChangeSpec) : _root_.Go.OpenSpec := { _root_.Go.OpenSpec.ofChange s with cond := some uptoSmall }

/-- 'parolelaw13.RulesNarrow', WHERE WHAT IT READS IS OF BULK AT MOST 1048576: true; the input reads as it did. -/
def rulesNarrowUptoRow : OpenClaim := { program := "ytioiffbnbjalcaa", sum := "a7c5b5445f557b2000e58a0ddd87b0febe3c0d530308ee1ab96f89f8b1bc3954", func := "parole/parolelaw13.RulesNarrow", spec := "rulesNarrow", unfollowed := true, recurses := true, apart := false, narrowed := true }
def RulesNarrowUptoSaid : Prop := rulesNarrowUptoRow.holds Try.pinned (OpenSpec.upto rulesNarrowSpec)

/-- 'parolelaw13.RulesSound', WHERE WHAT IT READS IS OF BULK AT MOST 1048576: true; the input reads as it did. -/
def rulesSoundUptoRow : OpenClaim := { program := "ytioiffbnbjalcaa", sum := "a7c5b5445f557b2000e58a0ddd87b0febe3c0d530308ee1ab96f89f8b1bc3954", func := "parole/parolelaw13.RulesSound", spec := "rulesSound", unfollowed := true, recurses := true, apart := false, narrowed := true }
def RulesSoundUptoSaid : Prop := rulesSoundUptoRow.holds Try.pinned (OpenSpec.upto rulesSoundSpec)

/-- 'parolelaw13.RulesRefuses', WHERE WHAT IT READS IS OF BULK AT MOST 1048576: true; the input reads as it did. -/
def rulesRefusesUptoRow : OpenClaim := { program := "ytioiffbnbjalcaa", sum := "a7c5b5445f557b2000e58a0ddd87b0febe3c0d530308ee1ab96f89f8b1bc3954", func := "parole/parolelaw13.RulesRefuses", spec := "rulesRefuses", unfollowed := true, recurses := true, apart := false, narrowed := true }
def RulesRefusesUptoSaid : Prop := rulesRefusesUptoRow.holds Try.pinned (OpenSpec.upto rulesRefusesSpec)

/-- 'parolelaw13.RulesOthers', WHERE WHAT IT READS IS OF BULK AT MOST 1048576: true; the input reads as it did. -/
def rulesOthersUptoRow : OpenClaim := { program := "ytioiffbnbjalcaa", sum := "a7c5b5445f557b2000e58a0ddd87b0febe3c0d530308ee1ab96f89f8b1bc3954", func := "parole/parolelaw13.RulesOthers", spec := "rulesOthers", unfollowed := true, recurses := true, apart := false, narrowed := true }
def RulesOthersUptoSaid : Prop := rulesOthersUptoRow.holds Try.pinned (OpenSpec.upto rulesOthersSpec)

end Rows
end Go.Proofs.Ytioiffbnbjalcaa

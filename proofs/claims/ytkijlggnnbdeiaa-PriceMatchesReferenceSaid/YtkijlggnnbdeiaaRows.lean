/-
  No cell of these rows narrows 'for every input' (looked for: loops, veiled, ifaces, maps, wideKeys, modest, calm, conditions, laid).
  DERIVED. THE GIVEN ROWS OF THIS SEAT. 6 by the template 'for every input the law returns true; each argument reads behind the call as it read before'; 0 by the template 'total and deterministic' (their statements: YtkijlggnnbdeiaaTotals.lean).
  GIVEN WITH THE SEED: the statements are not yours to turn. If you find one false, say at which input.
  Laid BY PROGRAM, IN A SANDBOX (cutbox-rows.mjs): the forced cells as the released guide's own fill.sh prints them over the translation c30f2605f70f48bd… (all of the seat's roots in one cut). By AI agents, Wed Nov 11 2026. No macro, syntax, notation, axiom, sorry.
-/
import Derived.Test.YtkijlggnnbdeiaaChecked
import GoSem.Claim
import GoSem.ClaimJoined
import GoSem.ClaimMapViews
import Derived.JoinedTies
import Derived.KernelRfl
namespace Go.Proofs.Ytkijlggnnbdeiaa
/- THE CELL 'sum', in the pinned program and in every row, IS THE sha256 OF THE DUMP (.gsa) THAT YtkijlggnnbdeiaaProg.lean LOADS. Nothing in Lean hashes anything: it is a label: what it is worth is what the hold of that sum in a sandbox is worth. -/
noncomputable def Try.pinned : Pinned := { name := "ytkijlggnnbdeiaa", sum := "c30f2605f70f48bd84ca12f0ad2dd902c72e2f9f337419b196a0f1f279a70826", checked := Try.checked }
namespace Rows
def none {H : Type} : Left H := { results := [], args := [] }

/-- 'parolelaw42.PricePremiums': WHATEVER THE INPUT: true; the input reads as it did. -/
def pricePremiumsSpec : ChangeSpec := { name := "pricePremiums", fn := fun _ => fun
  | [d1, d2, d3] => { results := [.lit (.bool true)], args := [d1, d2, d3] }
  | _ => none }
def pricePremiumsRow : OpenClaim := { program := "ytkijlggnnbdeiaa", sum := "c30f2605f70f48bd84ca12f0ad2dd902c72e2f9f337419b196a0f1f279a70826", func := "parole/parolelaw42.PricePremiums", spec := "pricePremiums", inPlace := ["math/bits.Add64", "math/bits.Sub64"], unfollowed := true, recurses := true, named := ["math/bits.divideError", "math/bits.overflowError"], apart := false }
def PricePremiumsSaid : Prop := pricePremiumsRow.holds Try.pinned (OpenSpec.ofChange pricePremiumsSpec)

/-- ITS FALSE NEIGHBOUR: 'it returns false'. Refute it at one input. -/
def pricePremiumsWrong : ChangeSpec := { name := "pricePremiums", fn := fun _ => fun
  | [d1, d2, d3] => { results := [.lit (.bool false)], args := [d1, d2, d3] }
  | _ => none }
def PricePremiumsWrongFalsely : Prop := pricePremiumsRow.holds Try.pinned (OpenSpec.ofChange pricePremiumsWrong)

/-- 'parolelaw42.PriceBonds': WHATEVER THE INPUT: true; the input reads as it did. -/
def priceBondsSpec : ChangeSpec := { name := "priceBonds", fn := fun _ => fun
  | [d1, d2, d3] => { results := [.lit (.bool true)], args := [d1, d2, d3] }
  | _ => none }
def priceBondsRow : OpenClaim := { program := "ytkijlggnnbdeiaa", sum := "c30f2605f70f48bd84ca12f0ad2dd902c72e2f9f337419b196a0f1f279a70826", func := "parole/parolelaw42.PriceBonds", spec := "priceBonds", inPlace := ["math/bits.Add64", "math/bits.Sub64"], unfollowed := true, recurses := true, named := ["math/bits.divideError", "math/bits.overflowError"], apart := false }
def PriceBondsSaid : Prop := priceBondsRow.holds Try.pinned (OpenSpec.ofChange priceBondsSpec)

/-- ITS FALSE NEIGHBOUR: 'it returns false'. Refute it at one input. -/
def priceBondsWrong : ChangeSpec := { name := "priceBonds", fn := fun _ => fun
  | [d1, d2, d3] => { results := [.lit (.bool false)], args := [d1, d2, d3] }
  | _ => none }
def PriceBondsWrongFalsely : Prop := priceBondsRow.holds Try.pinned (OpenSpec.ofChange priceBondsWrong)

/-- 'parolelaw42.PriceShort': WHATEVER THE INPUT: true; the input reads as it did. -/
def priceShortSpec : ChangeSpec := { name := "priceShort", fn := fun _ => fun
  | [d1, d2, d3] => { results := [.lit (.bool true)], args := [d1, d2, d3] }
  | _ => none }
def priceShortRow : OpenClaim := { program := "ytkijlggnnbdeiaa", sum := "c30f2605f70f48bd84ca12f0ad2dd902c72e2f9f337419b196a0f1f279a70826", func := "parole/parolelaw42.PriceShort", spec := "priceShort", inPlace := ["math/bits.Add64", "math/bits.Sub64"], unfollowed := true, recurses := true, named := ["math/bits.divideError", "math/bits.overflowError"], apart := false }
def PriceShortSaid : Prop := priceShortRow.holds Try.pinned (OpenSpec.ofChange priceShortSpec)

/-- ITS FALSE NEIGHBOUR: 'it returns false'. Refute it at one input. -/
def priceShortWrong : ChangeSpec := { name := "priceShort", fn := fun _ => fun
  | [d1, d2, d3] => { results := [.lit (.bool false)], args := [d1, d2, d3] }
  | _ => none }
def PriceShortWrongFalsely : Prop := priceShortRow.holds Try.pinned (OpenSpec.ofChange priceShortWrong)

/-- 'parolelaw42.PriceSettles': WHATEVER THE INPUT: true; the input reads as it did. -/
def priceSettlesSpec : ChangeSpec := { name := "priceSettles", fn := fun _ => fun
  | [d1, d2, d3] => { results := [.lit (.bool true)], args := [d1, d2, d3] }
  | _ => none }
def priceSettlesRow : OpenClaim := { program := "ytkijlggnnbdeiaa", sum := "c30f2605f70f48bd84ca12f0ad2dd902c72e2f9f337419b196a0f1f279a70826", func := "parole/parolelaw42.PriceSettles", spec := "priceSettles", inPlace := ["math/bits.Add64", "math/bits.Sub64"], unfollowed := true, recurses := true, named := ["math/bits.divideError", "math/bits.overflowError"], apart := false }
def PriceSettlesSaid : Prop := priceSettlesRow.holds Try.pinned (OpenSpec.ofChange priceSettlesSpec)

/-- ITS FALSE NEIGHBOUR: 'it returns false'. Refute it at one input. -/
def priceSettlesWrong : ChangeSpec := { name := "priceSettles", fn := fun _ => fun
  | [d1, d2, d3] => { results := [.lit (.bool false)], args := [d1, d2, d3] }
  | _ => none }
def PriceSettlesWrongFalsely : Prop := priceSettlesRow.holds Try.pinned (OpenSpec.ofChange priceSettlesWrong)

/-- 'parolelaw42.PriceMatchesReference': WHATEVER THE INPUT: true; the input reads as it did. -/
def priceMatchesReferenceSpec : ChangeSpec := { name := "priceMatchesReference", fn := fun _ => fun
  | [d1, d2, d3] => { results := [.lit (.bool true)], args := [d1, d2, d3] }
  | _ => none }
def priceMatchesReferenceRow : OpenClaim := { program := "ytkijlggnnbdeiaa", sum := "c30f2605f70f48bd84ca12f0ad2dd902c72e2f9f337419b196a0f1f279a70826", func := "parole/parolelaw42.PriceMatchesReference", spec := "priceMatchesReference", inPlace := ["math/bits.Add64", "math/bits.Sub64"], unfollowed := true, recurses := true, named := ["math/bits.divideError", "math/bits.overflowError"], apart := false }
def PriceMatchesReferenceSaid : Prop := priceMatchesReferenceRow.holds Try.pinned (OpenSpec.ofChange priceMatchesReferenceSpec)

/-- ITS FALSE NEIGHBOUR: 'it returns false'. Refute it at one input. -/
def priceMatchesReferenceWrong : ChangeSpec := { name := "priceMatchesReference", fn := fun _ => fun
  | [d1, d2, d3] => { results := [.lit (.bool false)], args := [d1, d2, d3] }
  | _ => none }
def PriceMatchesReferenceWrongFalsely : Prop := priceMatchesReferenceRow.holds Try.pinned (OpenSpec.ofChange priceMatchesReferenceWrong)

/-- 'parolelaw42.PriceRefuses': WHATEVER THE INPUT: true; the input reads as it did. -/
def priceRefusesSpec : ChangeSpec := { name := "priceRefuses", fn := fun _ => fun
  | [d1, d2, d3] => { results := [.lit (.bool true)], args := [d1, d2, d3] }
  | _ => none }
def priceRefusesRow : OpenClaim := { program := "ytkijlggnnbdeiaa", sum := "c30f2605f70f48bd84ca12f0ad2dd902c72e2f9f337419b196a0f1f279a70826", func := "parole/parolelaw42.PriceRefuses", spec := "priceRefuses", inPlace := ["math/bits.Add64", "math/bits.Sub64"], unfollowed := true, recurses := true, named := ["math/bits.divideError", "math/bits.overflowError"], apart := false }
def PriceRefusesSaid : Prop := priceRefusesRow.holds Try.pinned (OpenSpec.ofChange priceRefusesSpec)

/-- ITS FALSE NEIGHBOUR: 'it returns false'. Refute it at one input. -/
def priceRefusesWrong : ChangeSpec := { name := "priceRefuses", fn := fun _ => fun
  | [d1, d2, d3] => { results := [.lit (.bool false)], args := [d1, d2, d3] }
  | _ => none }
def PriceRefusesWrongFalsely : Prop := priceRefusesRow.holds Try.pinned (OpenSpec.ofChange priceRefusesWrong)

/- THE SECOND FORM. 'bulk': how many values and letters a reading holds, each counted each time it is reached (what is shared counts as often as it is met; a slice's spare places count too). A statement '..UptoSaid' is the law's where the arguments, and the package variables that the reading takes, are together of bulk at most 1048576: NARROWER than '..Said'. Prove '..Said' where nothing that the law and all that it calls make is longer than what came in: it says more and counts as full. Else prove '..UptoSaid'. A law counts once. -/
mutual
def uptoBulk {H : Type} : DataW H → Nat
  | .lit (.string bytes) => bytes.length + 1
  | .lit _ => 1
  | .nil => 1
  | .ptr d => uptoBulk d + 1
  | .slice elems spare => uptoBulkAll elems + uptoBulkAll spare + 1
  | .agg parts => uptoBulkAll parts + 1
  | .iface _ d => uptoBulk d + 1
  | .map entries => uptoBulkEntries entries + 1
  | .held _ => 1
def uptoBulkAll {H : Type} : List (DataW H) → Nat
  | [] => 0
  | d :: r => uptoBulk d + uptoBulkAll r
def uptoBulkEntries {H : Type} : List (Lit × DataW H) → Nat
  | [] => 0
  | x :: r => uptoBulkEntry x + uptoBulkEntries r
def uptoBulkEntry {H : Type} : Lit × DataW H → Nat
  | (.string bytes, d) => bytes.length + uptoBulk d + 1
  | (_, d) => uptoBulk d + 1
 end
def uptoSmall : (H : Type) → List (DataW H) → Bool := fun _ ds => decide (uptoBulkAll ds ≤ 1048576)
def OpenSpec.upto (s : _root_.Go.ChangeSpec) : _root_.Go.OpenSpec := { _root_.Go.OpenSpec.ofChange s with cond := some uptoSmall }

/-- 'parolelaw42.PricePremiums', WHERE WHAT IT READS IS OF BULK AT MOST 1048576: true; the input reads as it did. -/
def pricePremiumsUptoRow : OpenClaim := { program := "ytkijlggnnbdeiaa", sum := "c30f2605f70f48bd84ca12f0ad2dd902c72e2f9f337419b196a0f1f279a70826", func := "parole/parolelaw42.PricePremiums", spec := "pricePremiums", inPlace := ["math/bits.Add64", "math/bits.Sub64"], unfollowed := true, recurses := true, named := ["math/bits.divideError", "math/bits.overflowError"], apart := false, narrowed := true }
def PricePremiumsUptoSaid : Prop := pricePremiumsUptoRow.holds Try.pinned (OpenSpec.upto pricePremiumsSpec)

/-- 'parolelaw42.PriceBonds', WHERE WHAT IT READS IS OF BULK AT MOST 1048576: true; the input reads as it did. -/
def priceBondsUptoRow : OpenClaim := { program := "ytkijlggnnbdeiaa", sum := "c30f2605f70f48bd84ca12f0ad2dd902c72e2f9f337419b196a0f1f279a70826", func := "parole/parolelaw42.PriceBonds", spec := "priceBonds", inPlace := ["math/bits.Add64", "math/bits.Sub64"], unfollowed := true, recurses := true, named := ["math/bits.divideError", "math/bits.overflowError"], apart := false, narrowed := true }
def PriceBondsUptoSaid : Prop := priceBondsUptoRow.holds Try.pinned (OpenSpec.upto priceBondsSpec)

/-- 'parolelaw42.PriceShort', WHERE WHAT IT READS IS OF BULK AT MOST 1048576: true; the input reads as it did. -/
def priceShortUptoRow : OpenClaim := { program := "ytkijlggnnbdeiaa", sum := "c30f2605f70f48bd84ca12f0ad2dd902c72e2f9f337419b196a0f1f279a70826", func := "parole/parolelaw42.PriceShort", spec := "priceShort", inPlace := ["math/bits.Add64", "math/bits.Sub64"], unfollowed := true, recurses := true, named := ["math/bits.divideError", "math/bits.overflowError"], apart := false, narrowed := true }
def PriceShortUptoSaid : Prop := priceShortUptoRow.holds Try.pinned (OpenSpec.upto priceShortSpec)

/-- 'parolelaw42.PriceSettles', WHERE WHAT IT READS IS OF BULK AT MOST 1048576: true; the input reads as it did. -/
def priceSettlesUptoRow : OpenClaim := { program := "ytkijlggnnbdeiaa", sum := "c30f2605f70f48bd84ca12f0ad2dd902c72e2f9f337419b196a0f1f279a70826", func := "parole/parolelaw42.PriceSettles", spec := "priceSettles", inPlace := ["math/bits.Add64", "math/bits.Sub64"], unfollowed := true, recurses := true, named := ["math/bits.divideError", "math/bits.overflowError"], apart := false, narrowed := true }
def PriceSettlesUptoSaid : Prop := priceSettlesUptoRow.holds Try.pinned (OpenSpec.upto priceSettlesSpec)

/-- 'parolelaw42.PriceMatchesReference', WHERE WHAT IT READS IS OF BULK AT MOST 1048576: true; the input reads as it did. -/
def priceMatchesReferenceUptoRow : OpenClaim := { program := "ytkijlggnnbdeiaa", sum := "c30f2605f70f48bd84ca12f0ad2dd902c72e2f9f337419b196a0f1f279a70826", func := "parole/parolelaw42.PriceMatchesReference", spec := "priceMatchesReference", inPlace := ["math/bits.Add64", "math/bits.Sub64"], unfollowed := true, recurses := true, named := ["math/bits.divideError", "math/bits.overflowError"], apart := false, narrowed := true }
def PriceMatchesReferenceUptoSaid : Prop := priceMatchesReferenceUptoRow.holds Try.pinned (OpenSpec.upto priceMatchesReferenceSpec)

/-- 'parolelaw42.PriceRefuses', WHERE WHAT IT READS IS OF BULK AT MOST 1048576: true; the input reads as it did. -/
def priceRefusesUptoRow : OpenClaim := { program := "ytkijlggnnbdeiaa", sum := "c30f2605f70f48bd84ca12f0ad2dd902c72e2f9f337419b196a0f1f279a70826", func := "parole/parolelaw42.PriceRefuses", spec := "priceRefuses", inPlace := ["math/bits.Add64", "math/bits.Sub64"], unfollowed := true, recurses := true, named := ["math/bits.divideError", "math/bits.overflowError"], apart := false, narrowed := true }
def PriceRefusesUptoSaid : Prop := priceRefusesUptoRow.holds Try.pinned (OpenSpec.upto priceRefusesSpec)

end Rows
end Go.Proofs.Ytkijlggnnbdeiaa

/-
  NARROWER THAN 'FOR EVERY INPUT', by the rows' own cells (each row's printed sentence says how): FieldWatches: loops.
  DERIVED. THE GIVEN ROWS OF THIS SEAT. 7 by the template 'for every input the law returns true; each argument reads behind the call as it read before'; 0 by the template 'total and deterministic' (their statements: YtglfbdicclepcaaTotals.lean).
  GIVEN WITH THE SEED: the statements are not yours to turn. If you find one false, say at which input.
  Laid BY PROGRAM, IN A SANDBOX (cutbox-rows.mjs): the forced cells as the released guide's own fill.sh prints them over the translation 0e6e2e23509e70f7… (all of the seat's roots in one cut). By AI agents, Wed Nov 11 2026. No macro, syntax, notation, axiom, sorry.
-/
import Derived.Test.YtglfbdicclepcaaChecked
import GoSem.Claim
import GoSem.ClaimJoined
import GoSem.ClaimMapViews
import Derived.JoinedTies
import Derived.KernelRfl
namespace Go.Proofs.Ytglfbdicclepcaa
/- THE CELL 'sum', in the pinned program and in every row, IS THE sha256 OF THE DUMP (.gsa) THAT YtglfbdicclepcaaProg.lean LOADS. Nothing in Lean hashes anything: it is a label: what it is worth is what the hold of that sum in a sandbox is worth. -/
noncomputable def Try.pinned : Pinned := { name := "ytglfbdicclepcaa", sum := "0e6e2e23509e70f7e74c0d8be449b586f9ce3db956fdf55c0748cbb2ce1ea1ed", checked := Try.checked }
namespace Rows
def none {H : Type} : Left H := { results := [], args := [] }

/-- 'parolelaw32.FieldMatchesReference': WHATEVER THE INPUT: true; the input reads as it did. -/
def fieldMatchesReferenceSpec : ChangeSpec := { name := "fieldMatchesReference", fn := fun _ => fun
  | [d1, d2, d3] => { results := [.lit (.bool true)], args := [d1, d2, d3] }
  | _ => none }
def fieldMatchesReferenceRow : OpenClaim := { program := "ytglfbdicclepcaa", sum := "0e6e2e23509e70f7e74c0d8be449b586f9ce3db956fdf55c0748cbb2ce1ea1ed", func := "parole/parolelaw32.FieldMatchesReference", spec := "fieldMatchesReference", apart := false }
def FieldMatchesReferenceSaid : Prop := fieldMatchesReferenceRow.holds Try.pinned (OpenSpec.ofChange fieldMatchesReferenceSpec)

/-- ITS FALSE NEIGHBOUR: 'it returns false'. Refute it at one input. -/
def fieldMatchesReferenceWrong : ChangeSpec := { name := "fieldMatchesReference", fn := fun _ => fun
  | [d1, d2, d3] => { results := [.lit (.bool false)], args := [d1, d2, d3] }
  | _ => none }
def FieldMatchesReferenceWrongFalsely : Prop := fieldMatchesReferenceRow.holds Try.pinned (OpenSpec.ofChange fieldMatchesReferenceWrong)

/-- 'parolelaw32.FieldOrder': WHATEVER THE INPUT: true; the input reads as it did. -/
def fieldOrderSpec : ChangeSpec := { name := "fieldOrder", fn := fun _ => fun
  | [d1, d2] => { results := [.lit (.bool true)], args := [d1, d2] }
  | _ => none }
def fieldOrderRow : OpenClaim := { program := "ytglfbdicclepcaa", sum := "0e6e2e23509e70f7e74c0d8be449b586f9ce3db956fdf55c0748cbb2ce1ea1ed", func := "parole/parolelaw32.FieldOrder", spec := "fieldOrder", apart := false }
def FieldOrderSaid : Prop := fieldOrderRow.holds Try.pinned (OpenSpec.ofChange fieldOrderSpec)

/-- ITS FALSE NEIGHBOUR: 'it returns false'. Refute it at one input. -/
def fieldOrderWrong : ChangeSpec := { name := "fieldOrder", fn := fun _ => fun
  | [d1, d2] => { results := [.lit (.bool false)], args := [d1, d2] }
  | _ => none }
def FieldOrderWrongFalsely : Prop := fieldOrderRow.holds Try.pinned (OpenSpec.ofChange fieldOrderWrong)

/-- 'parolelaw32.FieldForged': WHATEVER THE INPUT: true; the input reads as it did. -/
def fieldForgedSpec : ChangeSpec := { name := "fieldForged", fn := fun _ => fun
  | [d1, d2, d3] => { results := [.lit (.bool true)], args := [d1, d2, d3] }
  | _ => none }
def fieldForgedRow : OpenClaim := { program := "ytglfbdicclepcaa", sum := "0e6e2e23509e70f7e74c0d8be449b586f9ce3db956fdf55c0748cbb2ce1ea1ed", func := "parole/parolelaw32.FieldForged", spec := "fieldForged", apart := false }
def FieldForgedSaid : Prop := fieldForgedRow.holds Try.pinned (OpenSpec.ofChange fieldForgedSpec)

/-- ITS FALSE NEIGHBOUR: 'it returns false'. Refute it at one input. -/
def fieldForgedWrong : ChangeSpec := { name := "fieldForged", fn := fun _ => fun
  | [d1, d2, d3] => { results := [.lit (.bool false)], args := [d1, d2, d3] }
  | _ => none }
def FieldForgedWrongFalsely : Prop := fieldForgedRow.holds Try.pinned (OpenSpec.ofChange fieldForgedWrong)

/-- 'parolelaw32.FieldLost': WHATEVER THE INPUT: true; the input reads as it did. -/
def fieldLostSpec : ChangeSpec := { name := "fieldLost", fn := fun _ => fun
  | [d1, d2, d3] => { results := [.lit (.bool true)], args := [d1, d2, d3] }
  | _ => none }
def fieldLostRow : OpenClaim := { program := "ytglfbdicclepcaa", sum := "0e6e2e23509e70f7e74c0d8be449b586f9ce3db956fdf55c0748cbb2ce1ea1ed", func := "parole/parolelaw32.FieldLost", spec := "fieldLost", apart := false }
def FieldLostSaid : Prop := fieldLostRow.holds Try.pinned (OpenSpec.ofChange fieldLostSpec)

/-- ITS FALSE NEIGHBOUR: 'it returns false'. Refute it at one input. -/
def fieldLostWrong : ChangeSpec := { name := "fieldLost", fn := fun _ => fun
  | [d1, d2, d3] => { results := [.lit (.bool false)], args := [d1, d2, d3] }
  | _ => none }
def FieldLostWrongFalsely : Prop := fieldLostRow.holds Try.pinned (OpenSpec.ofChange fieldLostWrong)

/-- 'parolelaw32.FieldMore': WHATEVER THE INPUT: true; the input reads as it did. -/
def fieldMoreSpec : ChangeSpec := { name := "fieldMore", fn := fun _ => fun
  | [d1, d2] => { results := [.lit (.bool true)], args := [d1, d2] }
  | _ => none }
def fieldMoreRow : OpenClaim := { program := "ytglfbdicclepcaa", sum := "0e6e2e23509e70f7e74c0d8be449b586f9ce3db956fdf55c0748cbb2ce1ea1ed", func := "parole/parolelaw32.FieldMore", spec := "fieldMore", apart := false }
def FieldMoreSaid : Prop := fieldMoreRow.holds Try.pinned (OpenSpec.ofChange fieldMoreSpec)

/-- ITS FALSE NEIGHBOUR: 'it returns false'. Refute it at one input. -/
def fieldMoreWrong : ChangeSpec := { name := "fieldMore", fn := fun _ => fun
  | [d1, d2] => { results := [.lit (.bool false)], args := [d1, d2] }
  | _ => none }
def FieldMoreWrongFalsely : Prop := fieldMoreRow.holds Try.pinned (OpenSpec.ofChange fieldMoreWrong)

/-- 'parolelaw32.FieldBounds': WHATEVER THE INPUT: true; the input reads as it did. -/
def fieldBoundsSpec : ChangeSpec := { name := "fieldBounds", fn := fun _ => fun
  | [d1, d2] => { results := [.lit (.bool true)], args := [d1, d2] }
  | _ => none }
def fieldBoundsRow : OpenClaim := { program := "ytglfbdicclepcaa", sum := "0e6e2e23509e70f7e74c0d8be449b586f9ce3db956fdf55c0748cbb2ce1ea1ed", func := "parole/parolelaw32.FieldBounds", spec := "fieldBounds", inPlace := ["math/bits.Add64", "math/bits.Sub64"], named := ["math/bits.divideError", "math/bits.overflowError"], apart := false }
def FieldBoundsSaid : Prop := fieldBoundsRow.holds Try.pinned (OpenSpec.ofChange fieldBoundsSpec)

/-- ITS FALSE NEIGHBOUR: 'it returns false'. Refute it at one input. -/
def fieldBoundsWrong : ChangeSpec := { name := "fieldBounds", fn := fun _ => fun
  | [d1, d2] => { results := [.lit (.bool false)], args := [d1, d2] }
  | _ => none }
def FieldBoundsWrongFalsely : Prop := fieldBoundsRow.holds Try.pinned (OpenSpec.ofChange fieldBoundsWrong)

/-- 'parolelaw32.FieldWatches': WHATEVER THE INPUT: true; the input reads as it did. -/
def fieldWatchesSpec : ChangeSpec := { name := "fieldWatches", fn := fun _ => fun
  | [d1, d2, d3] => { results := [.lit (.bool true)], args := [d1, d2, d3] }
  | _ => none }
def fieldWatchesRow : OpenClaim := { program := "ytglfbdicclepcaa", sum := "0e6e2e23509e70f7e74c0d8be449b586f9ce3db956fdf55c0748cbb2ce1ea1ed", func := "parole/parolelaw32.FieldWatches", spec := "fieldWatches", unfollowed := true, recurses := true, loops := true, apart := false }
def FieldWatchesSaid : Prop := fieldWatchesRow.holds Try.pinned (OpenSpec.ofChange fieldWatchesSpec)

/-- ITS FALSE NEIGHBOUR: 'it returns false'. Refute it at one input. -/
def fieldWatchesWrong : ChangeSpec := { name := "fieldWatches", fn := fun _ => fun
  | [d1, d2, d3] => { results := [.lit (.bool false)], args := [d1, d2, d3] }
  | _ => none }
def FieldWatchesWrongFalsely : Prop := fieldWatchesRow.holds Try.pinned (OpenSpec.ofChange fieldWatchesWrong)

/- THE SECOND FORM. 'bulk': how many values and letters a reading holds, each counted each time it is reached (what is shared counts as often as it is met; a slice's spare places count too). A statement '..UptoSaid' is the law's where the arguments, and the package variables that the reading takes, are together of bulk at most 1048576: NARROWER than '..Said'. Prove '..Said' where nothing that the law and all that it calls make is longer than what came in: it says more and counts as full. Else prove '..UptoSaid'. A law counts once. -/
mutual
def uptoBulk {H : Type} : DataW H → Nat
  | .lit (.string bytes) => bytes.length + 1
  | .lit _ => 1
  | .nil => 1
  | .ptr d => uptoBulk d + 1
  | .slice elems spare => uptoBulkAll elems + uptoBulkAll spare + 1
  | .agg parts => uptoBulkAll parts + 1
  | .iface _ d => uptoBulk d + 1
  | .map entries => uptoBulkEntries entries + 1
  | .held _ => 1
def uptoBulkAll {H : Type} : List (DataW H) → Nat
  | [] => 0
  | d :: r => uptoBulk d + uptoBulkAll r
def uptoBulkEntries {H : Type} : List (Lit × DataW H) → Nat
  | [] => 0
  | x :: r => uptoBulkEntry x + uptoBulkEntries r
def uptoBulkEntry {H : Type} : Lit × DataW H → Nat
  | (.string bytes, d) => bytes.length + uptoBulk d + 1
  | (_, d) => uptoBulk d + 1
 end
def uptoSmall : (H : Type) → List (DataW H) → Bool := fun _ ds => decide (uptoBulkAll ds ≤ 1048576)
def OpenSpec.upto (s : _root_.Go.ChangeSpec) : _root_.Go.OpenSpec := { _root_.Go.OpenSpec.ofChange s with cond := some uptoSmall }

/-- 'parolelaw32.FieldMatchesReference', WHERE WHAT IT READS IS OF BULK AT MOST 1048576: true; the input reads as it did. -/
def fieldMatchesReferenceUptoRow : OpenClaim := { program := "ytglfbdicclepcaa", sum := "0e6e2e23509e70f7e74c0d8be449b586f9ce3db956fdf55c0748cbb2ce1ea1ed", func := "parole/parolelaw32.FieldMatchesReference", spec := "fieldMatchesReference", apart := false, narrowed := true }
def FieldMatchesReferenceUptoSaid : Prop := fieldMatchesReferenceUptoRow.holds Try.pinned (OpenSpec.upto fieldMatchesReferenceSpec)

/-- 'parolelaw32.FieldOrder', WHERE WHAT IT READS IS OF BULK AT MOST 1048576: true; the input reads as it did. -/
def fieldOrderUptoRow : OpenClaim := { program := "ytglfbdicclepcaa", sum := "0e6e2e23509e70f7e74c0d8be449b586f9ce3db956fdf55c0748cbb2ce1ea1ed", func := "parole/parolelaw32.FieldOrder", spec := "fieldOrder", apart := false, narrowed := true }
def FieldOrderUptoSaid : Prop := fieldOrderUptoRow.holds Try.pinned (OpenSpec.upto fieldOrderSpec)

/-- 'parolelaw32.FieldForged', WHERE WHAT IT READS IS OF BULK AT MOST 1048576: true; the input reads as it did. -/
def fieldForgedUptoRow : OpenClaim := { program := "ytglfbdicclepcaa", sum := "0e6e2e23509e70f7e74c0d8be449b586f9ce3db956fdf55c0748cbb2ce1ea1ed", func := "parole/parolelaw32.FieldForged", spec := "fieldForged", apart := false, narrowed := true }
def FieldForgedUptoSaid : Prop := fieldForgedUptoRow.holds Try.pinned (OpenSpec.upto fieldForgedSpec)

/-- 'parolelaw32.FieldLost', WHERE WHAT IT READS IS OF BULK AT MOST 1048576: true; the input reads as it did. -/
def fieldLostUptoRow : OpenClaim := { program := "ytglfbdicclepcaa", sum := "0e6e2e23509e70f7e74c0d8be449b586f9ce3db956fdf55c0748cbb2ce1ea1ed", func := "parole/parolelaw32.FieldLost", spec := "fieldLost", apart := false, narrowed := true }
def FieldLostUptoSaid : Prop := fieldLostUptoRow.holds Try.pinned (OpenSpec.upto fieldLostSpec)

/-- 'parolelaw32.FieldMore', WHERE WHAT IT READS IS OF BULK AT MOST 1048576: true; the input reads as it did. -/
def fieldMoreUptoRow : OpenClaim := { program := "ytglfbdicclepcaa", sum := "0e6e2e23509e70f7e74c0d8be449b586f9ce3db956fdf55c0748cbb2ce1ea1ed", func := "parole/parolelaw32.FieldMore", spec := "fieldMore", apart := false, narrowed := true }
def FieldMoreUptoSaid : Prop := fieldMoreUptoRow.holds Try.pinned (OpenSpec.upto fieldMoreSpec)

/-- 'parolelaw32.FieldBounds', WHERE WHAT IT READS IS OF BULK AT MOST 1048576: true; the input reads as it did. -/
def fieldBoundsUptoRow : OpenClaim := { program := "ytglfbdicclepcaa", sum := "0e6e2e23509e70f7e74c0d8be449b586f9ce3db956fdf55c0748cbb2ce1ea1ed", func := "parole/parolelaw32.FieldBounds", spec := "fieldBounds", inPlace := ["math/bits.Add64", "math/bits.Sub64"], named := ["math/bits.divideError", "math/bits.overflowError"], apart := false, narrowed := true }
def FieldBoundsUptoSaid : Prop := fieldBoundsUptoRow.holds Try.pinned (OpenSpec.upto fieldBoundsSpec)

/-- 'parolelaw32.FieldWatches', WHERE WHAT IT READS IS OF BULK AT MOST 1048576: true; the input reads as it did. -/
def fieldWatchesUptoRow : OpenClaim := { program := "ytglfbdicclepcaa", sum := "0e6e2e23509e70f7e74c0d8be449b586f9ce3db956fdf55c0748cbb2ce1ea1ed", func := "parole/parolelaw32.FieldWatches", spec := "fieldWatches", unfollowed := true, recurses := true, loops := true, apart := false, narrowed := true }
def FieldWatchesUptoSaid : Prop := fieldWatchesUptoRow.holds Try.pinned (OpenSpec.upto fieldWatchesSpec)

end Rows
end Go.Proofs.Ytglfbdicclepcaa

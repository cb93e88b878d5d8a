/- The examples of chapter 01 as a contract of the evaluator. -/
import Derived.Test.YtfhfdenmcneamaaNumEx
import Derived.Test.YtfhfdenmcneamaaEvU
set_option linter.unusedVariables false
namespace Go.Proofs.Ytfhfdenmcneamaa
open Go.RowKit
set_option maxRecDepth 100000
theorem nx_examples : FnF Try.prog 10 true [] (.bool true) :=
  fnF_of (by kernel_rfl) [] (.bool true) (fun w B vs hs hr => by
    have : vs = #[] := by simpa using hs
    rw [this]) (fun _ _ => .bool _) (fun w => (examples_true w).mono fun e w' h => h)
end Go.Proofs.Ytfhfdenmcneamaa

/- Learning -/
import Derived.Test.YtkijlggnnbdeiaaOdMath
import Derived.Test.YtkijlggnnbdeiaaProg
set_option linter.unusedVariables false
set_option linter.unusedSimpArgs false
namespace Go.Proofs.Ytkijlggnnbdeiaa
open Go.RowKit
set_option maxRecDepth 100000

theorem merge_len : ∀ (p q : List An), (mergeF p q).length ≤ p.length + q.length
  | [], q => by simp [mergeF]
  | x :: p, [] => by simp [mergeF]
  | x :: p, y :: q => by
    rw [mergeF]
    split
    · have := merge_len p (y :: q); simp at this ⊢; omega
    · split
      · have := merge_len (x :: p) q; simp at this ⊢; omega
      · have := merge_len p q; simp at this ⊢; omega
  termination_by p q => p.length + q.length
def joinE (l : List An) : Int := if rightE l = 0 then 0 else 2
def joinL (l : List An) : List An := if rightE l = 0 then l else []
def oneQ (k : Int) (r : Bool) : An := if r then ⟨k, 1, 0⟩ else ⟨k, 0, 1⟩
def lrnE (l : List An) (k : Int) (r : Bool) : Int := if k < 1 ∨ 14 < k then 1 else joinE (mergeF l [oneQ k r])
def lrnL (l : List An) (k : Int) (r : Bool) : List An := if k < 1 ∨ 14 < k then [] else joinL (mergeF l [oneQ k r])
theorem rightE_nil : rightE [] = 0 := by rw [rightE, if_pos right_nil]
theorem one_bd1 (k : Int) : ∀ x ∈ [(⟨k, 1, 0⟩ : An)], BdQ x := by simp [BdQ]
theorem one_bd2 (k : Int) : ∀ x ∈ [(⟨k, 0, 1⟩ : An)], BdQ x := by simp [BdQ]

end Go.Proofs.Ytkijlggnnbdeiaa

/- Contracts of package odds -/
import Derived.Test.YtkijlggnnbdeiaaOdRat
import Derived.Test.YtkijlggnnbdeiaaProg
set_option linter.unusedVariables false
set_option linter.unusedSimpArgs false
namespace Go.Proofs.Ytkijlggnnbdeiaa
open Go.RowKit
set_option maxRecDepth 100000

structure An where
  kind : Int
  right : Int
  wrong : Int
def q0 : An := ⟨0, 0, 0⟩
def encQ (x : An) : AV := .agg [.int .i64 x.kind, .int .i64 x.right, .int .i64 x.wrong]
/-- The n-th is right, and behind the one before it. -/
def OkAt (l : List An) (n : Nat) : Prop := 1 ≤ (l.getD n q0).kind ∧ (l.getD n q0).kind ≤ 14 ∧ 0 ≤ (l.getD n q0).right ∧ 0 ≤ (l.getD n q0).wrong ∧ (l.getD n q0).right ≤ 1073741824 ∧ (l.getD n q0).wrong ≤ 1073741824 ∧ (n = 0 ∨ (l.getD (n - 1) q0).kind < (l.getD n q0).kind)
instance (l : List An) (n : Nat) : Decidable (OkAt l n) := inferInstanceAs (Decidable (_ ∧ _))
def RightP (l : List An) : Prop := ∀ n, n < l.length → OkAt l n
instance (l : List An) : Decidable (RightP l) := inferInstanceAs (Decidable (∀ n, n < l.length → OkAt l n))
def rightE (l : List An) : Int := if RightP l then 0 else 1
def sumQ (x y : An) : An := ⟨x.kind, x.right + y.right, x.wrong + y.wrong⟩
def mergeF : List An → List An → List An
  | [], q => q
  | p, [] => p
  | x :: p, y :: q => if x.kind < y.kind then x :: mergeF p (y :: q) else if y.kind < x.kind then y :: mergeF (x :: p) q else sumQ x y :: mergeF p q
  termination_by p q => p.length + q.length

def BdQ (x : An) : Prop := (-1152921504606846976 ≤ x.right ∧ x.right ≤ 1152921504606846976) ∧ -1152921504606846976 ≤ x.wrong ∧ x.wrong ≤ 1152921504606846976
theorem getD_mem {l : List An} {n : Nat} (h : n < l.length) : l.getD n q0 ∈ l := by
  rw [List.getD_eq_getElem?_getD, List.getElem?_eq_getElem h]; exact List.getElem_mem h
theorem cons_of {l : List An} (h : 0 < l.length) : l = l.getD 0 q0 :: l.drop 1 := by
  cases l with
  | nil => simp at h
  | cons x l => simp
theorem merge_l {p q : List An} (h : 0 < p.length) (k : q.length = 0 ∨ (p.getD 0 q0).kind < (q.getD 0 q0).kind) : mergeF p q = p.getD 0 q0 :: mergeF (p.drop 1) q := by
  cases p with
  | nil => simp at h
  | cons x p =>
    cases q with
    | nil => cases p <;> simp [mergeF]
    | cons y q =>
      rcases k with k | k
      · simp at k
      · rw [mergeF, if_pos (by simpa using k)]; simp
theorem merge_r {p q : List An} (h : 0 < q.length) (k : p.length = 0 ∨ (q.getD 0 q0).kind < (p.getD 0 q0).kind) : mergeF p q = q.getD 0 q0 :: mergeF p (q.drop 1) := by
  cases q with
  | nil => simp at h
  | cons y q =>
    cases p with
    | nil => simp [mergeF]
    | cons x p =>
      rcases k with k | k
      · simp at k
      · have k : y.kind < x.kind := by simpa using k
        rw [mergeF, if_neg (by omega), if_pos k]; simp
theorem merge_b {p q : List An} (h : 0 < p.length) (h2 : 0 < q.length) (k : (p.getD 0 q0).kind = (q.getD 0 q0).kind) : mergeF p q = sumQ (p.getD 0 q0) (q.getD 0 q0) :: mergeF (p.drop 1) (q.drop 1) := by
  cases q with
  | nil => simp at h2
  | cons y q =>
    cases p with
    | nil => simp at h
    | cons x p =>
      have k : x.kind = y.kind := by simpa using k
      rw [mergeF, if_neg (by omega), if_neg (by omega)]; simp
theorem merge_nil : mergeF [] [] = [] := by simp [mergeF]

end Go.Proofs.Ytkijlggnnbdeiaa

/- Small laws of whole numbers of 32 bits. For every program. -/
import Derived.Test.YtioiffbnbjalcaaNumDef
import Derived.Test.YtioiffbnbjalcaaEvU
import Derived.Test.YtioiffbnbjalcaaEvW
set_option linter.unusedVariables false
set_option linter.unusedSimpArgs false
namespace Go.Proofs.Ytioiffbnbjalcaa
open Go.RowKit
set_option maxRecDepth 100000
theorem wrap_i32 (x : Int) : IntKind.i32.wrap x = wrap32 x := by simp [IntKind.wrap, IntKind.bits, IntKind.signed, wrap32]; split <;> omega
theorem tmod_neg {a m : Int} (h : ¬ 0 ≤ a) : a.tmod m = -((-a) % m) := by
  have h1 := Int.tmod_eq_emod_of_nonneg (a := -a) (b := m) (by omega)
  rw [Int.neg_tmod] at h1
  omega
theorem mul_bd32 {a b : Int} (ha : -2147483648 ≤ a ∧ a ≤ 2147483647) (hb : -2147483648 ≤ b ∧ b ≤ 2147483647) : -4611686018427387904 ≤ a * b ∧ a * b ≤ 4611686018427387904 := by
  have h := Nat.mul_le_mul (show a.natAbs ≤ 2147483648 by omega) (show b.natAbs ≤ 2147483648 by omega)
  rw [← Int.natAbs_mul] at h
  omega
theorem tdiv_bd32 {a b : Int} (ha : -2147483648 ≤ a ∧ a ≤ 2147483647) : -2147483648 ≤ a.tdiv b ∧ a.tdiv b ≤ 2147483648 := by
  have h : (a.tdiv b).natAbs ≤ a.natAbs := by rw [Int.natAbs_tdiv]; exact Nat.div_le_self ..
  omega
theorem tmod_bd32 {a b : Int} (ha : -2147483648 ≤ a ∧ a ≤ 2147483647) : -2147483648 ≤ a.tmod b ∧ a.tmod b ≤ 2147483647 := by
  have h : (a.tmod b).natAbs ≤ a.natAbs := by rw [Int.natAbs_tmod]; exact Nat.mod_le _ _
  by_cases hn : a.tmod b = 2147483648
  · exfalso
    rcases Int.lt_or_le a 0 with h1 | h1
    · have := Int.tmod_nonneg b (a := -a) (by omega)
      rw [Int.neg_tmod] at this
      omega
    · omega
  · omega
end Go.Proofs.Ytioiffbnbjalcaa

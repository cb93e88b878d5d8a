/- parolelaw01.NumDivides answers true for every two values of 32 bits, and leaves its arguments as they were: no condition. -/
import Derived.Test.YtfhfdenmcneamaaNumRing
import Derived.Test.YtfhfdenmcneamaaLaw
set_option linter.unusedVariables false
namespace Go.Proofs.Ytfhfdenmcneamaa
open Go.ChangeShapes Go.WideShapes Go.ChangeAt Go.RowKit

theorem opV_div0 (a : Int) : opV 7 a 0 = 0 := by
  have : wrap32 0 = 0 := by decide +kernel
  simp [opV, this]
theorem opV_mod0 (a : Int) (ha : -2147483648 ≤ a ∧ a ≤ 2147483647) : opV 8 a 0 = a := by
  have : wrap32 0 = 0 := by decide +kernel
  simp [opV, this, wrap32_of a ha]
theorem opV_div (a b : Int) (ha : -2147483648 ≤ a ∧ a ≤ 2147483647) (hb : -2147483648 ≤ b ∧ b ≤ 2147483647) (h : b ≠ 0) : opV 7 a b = wrap32 (a.tdiv b) := by
  simp [opV, wrap32_of a ha, wrap32_of b hb, h]
theorem tmod_bd (a b : Int) (h : b ≠ 0) : (a.tmod b).natAbs < b.natAbs ∧ (a.tmod b).natAbs ≤ a.natAbs ∧ (0 ≤ a → 0 ≤ a.tmod b) ∧ (a ≤ 0 → a.tmod b ≤ 0) := by
  refine ⟨?_, ?_, fun h0 => Int.tmod_nonneg b h0, fun h0 => ?_⟩
  · rw [Int.natAbs_tmod]; exact Nat.mod_lt _ (by omega)
  · rw [Int.natAbs_tmod]; exact Nat.mod_le _ _
  · have := Int.tmod_nonneg b (a := -a) (by omega)
    rw [Int.neg_tmod] at this
    omega
theorem opV_mod (a b : Int) (ha : -2147483648 ≤ a ∧ a ≤ 2147483647) (hb : -2147483648 ≤ b ∧ b ≤ 2147483647) (h : b ≠ 0) : opV 8 a b = a.tmod b := by
  have hm := tmod_bd a b h
  have : opV 8 a b = wrap32 (a.tmod b) := by simp [opV, wrap32_of a ha, wrap32_of b hb, h]
  rw [this]
  exact wrap32_of _ (by omega)

set_option maxRecDepth 100000 in
set_option maxHeartbeats 4000000 in
theorem divides_zero (a : Int) (ha : -2147483648 ≤ a ∧ a ≤ 2147483647) (w : World) :
    Calls Try.prog 4 #[.int .i32 a, .int .i32 0] w fun e w' => e = .returned (.bool true) ∧ Below w.heap.size w w' := by
  have h1 := opV_div0 a
  have h2 := opV_mod0 a ha
  go_enter Try.func4, Try.ntmps4
  go_wp2_with fail
  refine (examples_true _).mono ?_
  rintro r w1 ⟨rfl, hb1⟩
  go_wp2_with (first | (go_at_call 11; refine (op_b _ _ _ _).mono ?_; rintro r w2 ⟨rfl, hb2⟩; have hb1 := hb1.trans (hb2.mono hb1.size); clear hb2))
  go_ret
  exact ⟨rfl, hb1⟩

set_option maxRecDepth 100000 in
set_option maxHeartbeats 4000000 in
theorem divides_more (a b : Int) (ha : -2147483648 ≤ a ∧ a ≤ 2147483647) (hb : -2147483648 ≤ b ∧ b ≤ 2147483647) (hz : b ≠ 0) (w : World) :
    Calls Try.prog 4 #[.int .i32 a, .int .i32 b] w fun e w' => e = .returned (.bool true) ∧ Below w.heap.size w w' := by
  have hn : (b == 0) = false := by simpa using hz
  have hq := opV_div a b ha hb hz
  have hr := opV_mod a b ha hb hz
  have hm := tmod_bd a b hz
  have e0 := Int.mul_tdiv_add_tmod a b
  have bq : -2147483648 ≤ opV 7 a b ∧ opV 7 a b ≤ 2147483647 := by rw [hq]; exact wrap32_bd _
  have hc : (b * opV 7 a b + opV 8 a b - a) % 4294967296 = 0 := by
    rw [hq, hr]
    have h1 : (b * wrap32 (a.tdiv b) + a.tmod b) % 4294967296 = (b * a.tdiv b + a.tmod b) % 4294967296 := by
      rw [Int.add_emod, Int.mul_emod, wrap32_mod, ← Int.mul_emod, ← Int.add_emod]
    rw [Int.sub_emod, h1, e0]
    omega
  have hmul := mul_bd hb bq
  rw [← hr] at hm
  have br : -2147483648 ≤ opV 8 a b ∧ opV 8 a b ≤ 2147483647 := by omega
  have HC := Lib.hid hc
  clear hc hq hr e0 hz
  generalize hq : opV 7 a b = q at *
  generalize hr : opV 8 a b = r at *
  have HQ := Lib.hid hq
  have HR := Lib.hid hr
  clear hq hr
  obtain ⟨m1, m2, m3, m4⟩ := hm
  have m5 : r < 0 → a < 0 := fun h => by omega
  have m6 : 0 < r → 0 < a := fun h => by omega
  have m7 : -(b.natAbs : Int) < r ∧ r < b.natAbs ∧ -(a.natAbs : Int) ≤ r ∧ r ≤ a.natAbs := by omega
  clear m1 m2 m3 m4
  have core : ∀ (sa : a < 0 ∨ 0 ≤ a) (sb : b < 0 ∨ 0 < b) (sr : r < 0 ∨ (0 ≤ r ∧ r ≤ 0) ∨ 0 < r), Calls Try.prog 4 #[.int .i32 a, .int .i32 b] w fun e w' => e = .returned (.bool true) ∧ Below w.heap.size w w' := by
    intro sa sb sr
    rcases sr with sr | sr | sr <;> rcases sb with sb | sb <;> rcases sa with sa | sa <;> (try (exfalso; omega)) <;>
    (have n1 : -(a : Int) ≤ 2147483648 := by omega
     have n2 : (r : Int) < b ∨ (r : Int) < -b := by omega
     have n3 : (0 ≤ b → r < b ∧ -r < b) ∧ (b ≤ 0 → r < -b ∧ -r < -b) := by omega
     have n4 : (0 ≤ a → r ≤ a ∧ -r ≤ a) ∧ (a ≤ 0 → r ≤ -a ∧ -r ≤ -a) := by omega
     clear m5 m6 m7
     go_enter Try.func4, Try.ntmps4
     go_wp2_with fail
     refine (examples_true _).mono ?_
     rintro x w1 ⟨rfl, hb1⟩
     go_wp2_with fail
     refine (op_is HQ.out _).mono ?_
     rintro x w2 ⟨rfl, hb2⟩
     go_wp2_with fail
     refine (op_is HR.out _).mono ?_
     rintro x w3 ⟨rfl, hb3⟩
     go_wp2_with (go_at_call 12; refine (congr_yes _ _ (by exact HC.out) (by omega) (by omega) _).mono ?_; rintro x w4 ⟨rfl, rfl⟩)
     go_ret
     exact ⟨rfl, (hb1.trans (hb2.mono hb1.size)).trans (hb3.mono (hb1.trans (hb2.mono hb1.size)).size)⟩)
  exact core (by omega) (by omega) (by omega)

theorem divides_walk (a b : Int) (ha : -2147483648 ≤ a ∧ a ≤ 2147483647) (hb : -2147483648 ≤ b ∧ b ≤ 2147483647) (w : World) :
    Calls Try.prog 4 #[.int .i32 a, .int .i32 b] w fun e w' => e = .returned (.bool true) ∧ Below w.heap.size w w' := by
  by_cases h : b = 0
  · subst h; exact divides_zero a ha w
  · exact divides_more a b ha hb h w

end Go.Proofs.Ytfhfdenmcneamaa

/- parolelaw01.NumRing answers true for every three values of 32 bits: addition, subtraction and multiplication are congruent to those of integers, and obey the laws of a commutative ring. -/
import Derived.Test.YtfhfdenmcneamaaNumEx
import Derived.Test.YtfhfdenmcneamaaLaw
set_option linter.unusedVariables false
namespace Go.Proofs.Ytfhfdenmcneamaa
open Go.ChangeShapes Go.WideShapes Go.ChangeAt Go.RowKit

theorem wrap32_mod (a : Int) : wrap32 a % 4294967296 = a % 4294967296 := by unfold wrap32; omega
theorem wrap32_congr {a b : Int} (h : a % 4294967296 = b % 4294967296) : wrap32 a = wrap32 b := by unfold wrap32; omega
theorem wrap32_idem (a : Int) : wrap32 (wrap32 a) = wrap32 a := wrap32_congr (wrap32_mod a)

theorem opV_add (a b : Int) : opV 4 a b = wrap32 (a + b) := by
  have : opV 4 a b = wrap32 (wrap32 a + wrap32 b) := by simp [opV]
  rw [this]
  exact wrap32_congr (by rw [Int.add_emod, wrap32_mod, wrap32_mod, ← Int.add_emod])
theorem opV_sub (a b : Int) : opV 5 a b = wrap32 (a - b) := by
  have : opV 5 a b = wrap32 (wrap32 a - wrap32 b) := by simp [opV]
  rw [this]
  exact wrap32_congr (by rw [Int.sub_emod, wrap32_mod, wrap32_mod, ← Int.sub_emod])
theorem opV_mul (a b : Int) : opV 6 a b = wrap32 (a * b) := by
  have : opV 6 a b = wrap32 (wrap32 a * wrap32 b) := by simp [opV]
  rw [this]
  exact wrap32_congr (by rw [Int.mul_emod, wrap32_mod, wrap32_mod, ← Int.mul_emod])

theorem add_wrap (a b : Int) : wrap32 (a + wrap32 b) = wrap32 (a + b) := wrap32_congr (by rw [Int.add_emod, wrap32_mod, ← Int.add_emod])
theorem wrap_add (a b : Int) : wrap32 (wrap32 a + b) = wrap32 (a + b) := wrap32_congr (by rw [Int.add_emod, wrap32_mod, ← Int.add_emod])
theorem mul_wrap (a b : Int) : wrap32 (a * wrap32 b) = wrap32 (a * b) := wrap32_congr (by rw [Int.mul_emod, wrap32_mod, ← Int.mul_emod])
theorem wrap_mul (a b : Int) : wrap32 (wrap32 a * b) = wrap32 (a * b) := wrap32_congr (by rw [Int.mul_emod, wrap32_mod, ← Int.mul_emod])

/-- Two numbers that differ by a multiple of 2^32 are congruent. -/
theorem congr_yes (a b : Int) (h : (a - b) % 4294967296 = 0) (h1 : -9223372036854775808 ≤ a - b) (h2 : a - b ≤ 9223372036854775807) (w : World) :
    Calls Try.prog 12 #[.int .i64 a, .int .i64 b] w fun e w' => e = .returned (.bool true) ∧ w = w' := by
  have ht : ((a - b).tmod 4294967296 == 0) = true := by
    have : (a - b).tmod 4294967296 = 0 := Int.tmod_eq_zero_of_dvd (Int.dvd_of_emod_eq_zero h)
    rw [this]; rfl
  clear h
  go_enter Try.func12, Try.ntmps12
  go_wp2
  go_ret
  exact ⟨rfl, rfl⟩

theorem mul_bd {a b : Int} (ha : -2147483648 ≤ a ∧ a ≤ 2147483647) (hb : -2147483648 ≤ b ∧ b ≤ 2147483647) : -4611686018427387904 ≤ a * b ∧ a * b ≤ 4611686018427387904 := by
  have h : a.natAbs * b.natAbs ≤ 2147483648 * 2147483648 := Nat.mul_le_mul (by omega) (by omega)
  rw [← Int.natAbs_mul] at h
  omega

set_option maxRecDepth 100000 in
set_option maxHeartbeats 4000000 in
theorem ring_walk (a b c : Int) (ha : -2147483648 ≤ a ∧ a ≤ 2147483647) (hb : -2147483648 ≤ b ∧ b ≤ 2147483647) (hc : -2147483648 ≤ c ∧ c ≤ 2147483647) (w : World) :
    Calls Try.prog 3 #[.int .i32 a, .int .i32 b, .int .i32 c] w fun e w' => e = .returned (.bool true) ∧ Below w.heap.size w w' := by
  have hm := mul_bd ha hb
  have s1 := wrap32_bd (a + b)
  have p1 := wrap32_bd (a * b)
  have d1 := wrap32_bd (a - b)
  have t1 : (opV 4 (opV 4 a b) c != opV 4 a (opV 4 b c)) = false := by
    simp only [opV_add, wrap_add, add_wrap, bne_eq_false_iff_eq]
    congr 1; omega
  have t2 : (opV 6 (opV 6 a b) c != opV 6 a (opV 6 b c)) = false := by
    simp only [opV_mul, wrap_mul, mul_wrap, bne_eq_false_iff_eq]
    rw [Int.mul_assoc]
  have t3 : (opV 4 a b != opV 4 b a) = false := by
    simp only [opV_add, bne_eq_false_iff_eq]; rw [Int.add_comm]
  have t4 : (opV 6 a b != opV 6 b a) = false := by
    simp only [opV_mul, bne_eq_false_iff_eq]; rw [Int.mul_comm]
  have t5 : (opV 6 (opV 4 a b) c == opV 4 (opV 6 a c) (opV 6 b c)) = true := by
    simp only [opV_mul, opV_add, wrap_mul, wrap_add, add_wrap, beq_iff_eq]
    rw [Int.add_mul]
  have t6 : (opV 4 (opV 5 a b) b == a) = true := by
    simp only [opV_add, opV_sub, wrap_add, beq_iff_eq]
    rw [show a - b + b = a by omega]; exact wrap32_of a ha
  have bs : -2147483648 ≤ opV 4 a b ∧ opV 4 a b ≤ 2147483647 := by rw [opV_add]; exact s1
  have bp : -2147483648 ≤ opV 6 a b ∧ opV 6 a b ≤ 2147483647 := by rw [opV_mul]; exact p1
  have bd : -2147483648 ≤ opV 5 a b ∧ opV 5 a b ≤ 2147483647 := by rw [opV_sub]; exact d1
  have cs : (opV 4 a b - (a + b)) % 4294967296 = 0 := by rw [opV_add, Int.sub_emod, wrap32_mod]; omega
  have cp : (opV 6 a b - (a * b)) % 4294967296 = 0 := by rw [opV_mul, Int.sub_emod, wrap32_mod]; omega
  have cd : (opV 5 a b - (a - b)) % 4294967296 = 0 := by rw [opV_sub, Int.sub_emod, wrap32_mod]; omega
  have CS := Lib.hid cs
  have CP := Lib.hid cp
  have CD := Lib.hid cd
  clear cs cp cd s1 p1 d1
  go_enter Try.func3, Try.ntmps3
  go_wp2_with fail
  refine (examples_true _).mono ?_
  rintro r w1 ⟨rfl, hb1⟩
  go_wp2_with (first | (go_at_call 11; refine (op_b _ _ _ _).mono ?_; rintro r w2 ⟨rfl, hb2⟩; have hb1 := hb1.trans (hb2.mono hb1.size); clear hb2) | (go_at_call 12; refine (congr_yes _ _ (by first | exact CS.out | exact CP.out | exact CD.out) (by omega) (by omega) _).mono ?_; rintro r w2 ⟨rfl, rfl⟩))
  go_ret
  exact ⟨rfl, hb1⟩

end Go.Proofs.Ytfhfdenmcneamaa
